/- The program's TermSame returns what the reference's returns, for all arguments; no condition beyond the statement's own. -/
import Derived.Test.YtedhckahjinieaaCFnExactTermSame7
import Derived.Test.YtedhckahjinieaaCFnExactTermSame10
namespace Go.Proofs.Ytedhckahjinieaa.Q
open Go.RowKit Go.Proofs.YtedhckahjinieaaW.PrintWords Go.Proofs.YtedhckahjinieaaW.PrintLast Go.Proofs.YtedhckahjinieaaW.PrintMore
attribute [local go_sem] max2_int min2_int max_two min_two max_three min_three max_four min_four   -- for this text's walks alone
set_option linter.unusedVariables false
set_option linter.unusedSimpArgs false
mutual
def spec_l4Star.l0 : Nat → Int → List Bool → List Int → Int → List Bool → List Bool → Option (List Bool)
 | 0, _, _, _, _, _, _ => none
 | k + 1, x1, x5, x6, x7, x502000, x502001 => if x7 < x1 then (spec_l4Star.l1 k x1 x5 x6 x7 0 x502000 x502001) else (some x5)
def spec_l4Star.j2 : Nat → Int → List Bool → List Int → Int → List Bool → List Bool → Option (List Bool)
 | 0, _, _, _, _, _, _ => none
 | k + 1, x1, x5, x6, x7, x502000, x502001 => if x7 = 0 then (if 0 < (x5.length : Int) then (spec_l4Star.l0 k x1 (x5.set (0 : Int).toNat true) x6 (wrap64 (x7 + 1)) x502000 x502001) else (none)) else (if 0 ≤ x7 then (if x7 < (x5.length : Int) then (if rdOf false x5 x7 = true then (spec_l4Star.l0 k x1 x5 x6 (wrap64 (x7 + 1)) x502000 x502001) else ((spec_l1Has.f x502000 x502001 x7).bind fun t514 => (if t514 = true then (if x6.length < 17592186044416 then (spec_l4Star.l0 k x1 (x5.set (x7 : Int).toNat true) (x6 ++ [x7]) (wrap64 (x7 + 1)) x502000 x502001) else (none)) else (spec_l4Star.l0 k x1 x5 x6 (wrap64 (x7 + 1)) x502000 x502001)))) else (none)) else (none))
def spec_l4Star.l1 : Nat → Int → List Bool → List Int → Int → Int → List Bool → List Bool → Option (List Bool)
 | 0, _, _, _, _, _, _, _ => none
 | k + 1, x1, x5, x6, x7, x8, x502000, x502001 => if x8 < (x6.length : Int) then (if 0 ≤ x7 then (if x7 < (x5.length : Int) then (if rdOf false x5 x7 = true then (spec_l4Star.j2 k x1 x5 x6 x7 x502000 x502001) else (if 0 ≤ x8 then (if 0 ≤ (wrap64 (x7 - (rd x6 x8))) then (if (wrap64 (x7 - (rd x6 x8))) < (x5.length : Int) then (spec_l4Star.l1 k x1 (x5.set (x7 : Int).toNat (rdOf false x5 (wrap64 (x7 - (rd x6 x8))))) x6 x7 (wrap64 (x8 + 1)) x502000 x502001) else (none)) else (none)) else (none))) else (none)) else (none)) else (spec_l4Star.j2 k x1 x5 x6 x7 x502000 x502001)
end
def spec_l4Star.f (k : Nat) (l0_0 : List Bool) (l0_1 : List Bool) (a1 : Int) : Option (List Bool) := if 0 ≤ a1 then (if (a1 : Int).toNat ≤ 281474976710656 then (spec_l4Star.l0 k a1 (List.replicate (a1 : Int).toNat false) (([] : List Int)) 0 l0_0 l0_1) else (none)) else (none)
theorem spec_l4Star.mono_l : ∀ k, (∀ y0 y1 y2 y3 y4 y5, LeO (spec_l4Star.l0 k y0 y1 y2 y3 y4 y5) (spec_l4Star.l0 (k + 1) y0 y1 y2 y3 y4 y5)) ∧ (∀ y0 y1 y2 y3 y4 y5, LeO (spec_l4Star.j2 k y0 y1 y2 y3 y4 y5) (spec_l4Star.j2 (k + 1) y0 y1 y2 y3 y4 y5)) ∧ (∀ y0 y1 y2 y3 y4 y5 y6, LeO (spec_l4Star.l1 k y0 y1 y2 y3 y4 y5 y6) (spec_l4Star.l1 (k + 1) y0 y1 y2 y3 y4 y5 y6))
 | 0 => ⟨fun _ _ _ _ _ _ r h => by simp [spec_l4Star.l0] at h, fun _ _ _ _ _ _ r h => by simp [spec_l4Star.j2] at h, fun _ _ _ _ _ _ _ r h => by simp [spec_l4Star.l1] at h⟩
 | k + 1 => by
  obtain ⟨ih0, ih1, ih2⟩ := spec_l4Star.mono_l k
  refine ⟨?_, ?_, ?_⟩
  ·intro y0 y1 y2 y3 y4 y5
   unfold spec_l4Star.l0
   repeat' first | (with_reducible exact ih2 _ _ _ _ _ _ _) | (with_reducible exact LeO.refl _) | (with_reducible refine LeO.ite ?_ ?_)
  ·intro y0 y1 y2 y3 y4 y5
   unfold spec_l4Star.j2
   repeat' first | (with_reducible exact ih0 _ _ _ _ _ _) | (with_reducible exact LeO.refl _) | (with_reducible refine LeO.ite ?_ ?_) | (with_reducible refine LeO.bind ?_ (fun _ => ?_))
  ·intro y0 y1 y2 y3 y4 y5 y6
   unfold spec_l4Star.l1
   repeat' first | (with_reducible exact ih1 _ _ _ _ _ _) | (with_reducible exact ih2 _ _ _ _ _ _ _) | (with_reducible exact LeO.refl _) | (with_reducible refine LeO.ite ?_ ?_)
theorem spec_l4Star.mono : ∀ a0 a1 a2 k, LeO (spec_l4Star.f k a0 a1 a2) (spec_l4Star.f (k + 1) a0 a1 a2) := by
 intro a0 a1 a2 k
 obtain ⟨ih0, ih1, ih2⟩ := spec_l4Star.mono_l k
 unfold spec_l4Star.f
 repeat' first | (with_reducible exact ih0 _ _ _ _ _ _) | (with_reducible exact LeO.refl _) | (with_reducible refine LeO.ite ?_ ?_)
set_option maxHeartbeats 8000000 in
set_option maxRecDepth 100000 in
theorem spec_l4Star.calls (k : Nat) (A0_0 : Option Addr) (c0_0 : Nat) (l0_0 : List Bool) (A0_1 : Option Addr) (c0_1 : Nat) (l0_1 : List Bool) (a1 : Int) (r : List Bool) (w : World) (hr0_0 : Kd.C Kd.bool w A0_0 l0_0.length l0_0) (hc0_0 : l0_0.length ≤ c0_0) (hr0_1 : Kd.C Kd.bool w A0_1 l0_1.length l0_1) (hc0_1 : l0_1.length ≤ c0_1) (h : spec_l4Star.f k l0_0 l0_1 a1 = some r) :
  Calls Try.prog 95 #[.agg #[.slice A0_0 l0_0.length c0_0, .slice A0_1 l0_1.length c0_1], .int .i64 a1] w fun e w' => ∃ v0_ : Value, e = .returned (v0_) ∧ Kd.R Kd.bool 4 w' w.heap.size (fun _ => True) v0_ r ∧ Below w.heap.size w w' := by
 have hu94 := Try.underlying94
 have HR0_0 := aM hr0_0
 have HC0_0 := aM hc0_0
 clear hr0_0 hc0_0
 have HR0_1 := aM hr0_1
 have HC0_1 := aM hc0_1
 clear hr0_1 hc0_1
 have HB := aM (Below.refl w.heap.size w)
 have H : (if 0 ≤ a1 then (if (a1 : Int).toNat ≤ 281474976710656 then (spec_l4Star.l0 k a1 (List.replicate (a1 : Int).toNat false) (([] : List Int)) 0 l0_0 l0_1) else (none)) else (none)) = some r := h
 clear h
 by_cases c3 : 0 ≤ a1
 ·rw [if_pos c3] at H
  have c3b0 := eq_true c3
  have c3b1 : decide (0 ≤ a1) = true := decide_eq_true c3
  clear c3
  by_cases c4 : (a1 : Int).toNat ≤ 281474976710656
  ·rw [if_pos c4] at H
   have c4b0 := eq_true c4
   have c4b1 : decide ((a1 : Int).toNat ≤ 281474976710656) = true := decide_eq_true c4
   clear c4
   obtain ⟨y502, hy502⟩ : ∃ y_ : List Bool, y_ = (List.replicate (a1 : Int).toNat false) := ⟨_, rfl⟩
   replace H : (spec_l4Star.l0 k a1 y502 (([] : List Int)) 0 l0_0 l0_1) = some r := by first | (rw [hy502]; with_reducible exact H)
   have Ny502 := aM hy502
   clear hy502
   obtain ⟨y505, hy505⟩ : ∃ y_ : List Int, y_ = (([] : List Int)) := ⟨_, rfl⟩
   replace H : (spec_l4Star.l0 k a1 y502 y505 0 l0_0 l0_1) = some r := by first | (rw [hy505]; with_reducible exact H)
   have Ny505 := aM hy505
   clear hy505
   have H' := aM H
   clear H
   go_enter Try.func95, Try.ntmps95
   go_wp2_with (first | ((with_reducible refine gate_dst (N := 2) rfl ?_); refine box_event ?hg (N := 2) ?hd (cs := #[.slice A0_0 l0_0.length c0_0, .slice A0_1 l0_1.length c0_1]) (t := 94) ?hr ?_; (case hd => rfl); (case hg => rfl); (case hr => first | (go_simp; done)); intro gb501 hg w5 hbox hb; have BK501 := aM hbox; have GW501 := aM ((by rw [hg]; exact (below_size HB.out) : w.heap.size ≤ gb501)); have GE501 := aM ((by rw [hg]; exact (below_size HB.out) : w.heap.size ≤ gb501)); replace HB := aM (below_step HB.out hb); clear hb hbox hg) | ((with_reducible refine gate_dst (N := 10) rfl ?_); refine Kd.R_make Kd.bool _ 4 rfl (N := 10) rfl 52 _ _ rfl a1 rfl rfl Try.underlying52 (.bool false) 1 info4 rfl (by decide) (by omega) false (ok := fun _ => True) (okp := fun _ => True) rfl (fun _ hk => hk) trivial (of_decide_eq_true (by (with_reducible assumption))) (Nat.le_trans (Nat.mul_le_mul_right _ (of_decide_eq_true (by (with_reducible assumption)) : a1.toNat ≤ 281474976710656)) (by omega)) (Below.refl _ _) (Nat.le_refl _) ?_; intro v503 w6 ho7 hb hg_ hnew_; clear hg_ hnew_; (rw [← Ny502.out] at ho7); have HO504 := aM (Kd.R_lower ho7 (below_size HB.out)); replace BK501 := aM (blk_below (g := gb501) (o := .cells #[.slice A0_0 l0_0.length c0_0, .slice A0_1 l0_1.length c0_1] 94 (0, 0)) BK501.out hb); replace HB := aM (below_step HB.out hb); clear hb ho7) | ((with_reducible refine gate_dst (N := 11) rfl ?_); refine Kd.R_lit (Kd.int .i64) _ 3 ?hg (N := 11) ?hd (xs := ([] : List Int)) (inner := []) (ok := fun _ => True) (okp := fun _ => True) ?hr ?hp (fun _ hk => hk) trivial (Below.refl _ _) (Nat.le_refl _) (by simp) ?_; (case hd => rfl); (case hg => rfl); (case hr => first | (go_simp; done)); (case hp => exact (Reps.none _ _)); intro v506 w8 ho9 hb hg_ hnew_; clear hg_ hnew_; (rw [← Ny505.out] at ho9); replace HO504 := aM (Kd.R_below HO504.out hb); have HO507 := aM (Kd.R_lower ho9 (below_size HB.out)); replace BK501 := aM (blk_below (g := gb501) (o := .cells #[.slice A0_0 l0_0.length c0_0, .slice A0_1 l0_1.length c0_1] 94 (0, 0)) BK501.out hb); replace HB := aM (below_step HB.out hb); clear hb ho9))
   go_loopg [6, 7] k (fun kq v6 v7 w' => ∃ (x5_1 : List Bool) (x6_1 : List Int) (x7_1 : Int), v7 = .int .i64 x7_1 ∧ Aside0 (spec_l4Star.l0 kq a1 x5_1 x6_1 x7_1 l0_0 l0_1 = some r) ∧ Aside0 (kq ≤ k) ∧ Aside0 (Kd.R Kd.bool 4 w' w.heap.size (fun _ => True) v503 x5_1) ∧ Aside0 (Kd.R (Kd.int .i64) 3 w' w.heap.size (fun _ => True) v6 x6_1) ∧ Aside0 (w'.heap[gb501]? = some (.cells #[(.slice A0_0 l0_0.length c0_0), (.slice A0_1 l0_1.length c0_1)] 94 (0, 0))) ∧ Aside0 (Below w.heap.size w w'))
   case atStart => exact ⟨(y502), (y505), (0), (by rfl), H', ⟨Nat.le_refl _⟩, ⟨by exact HO504.out⟩, ⟨by exact HO507.out⟩, ⟨by exact BK501.out⟩, ⟨HB.out⟩⟩
   case round =>
    clear H'
    try clear c3b0
    try clear c3b1
    try clear c4b0
    try clear c4b1
    obtain ⟨x5_1, x6_1, x7_1, rfl, HA, HK1, HO_5, HO_6, BK501, HB⟩ := hrel
    cases gk with
    | zero => exact absurd HA.out (by simp [spec_l4Star.l0])
    | succ k1 =>
     have H := HA.out
     clear HA
     simp only [spec_l4Star.l0] at H
     by_cases c10 : x7_1 < a1
     ·rw [if_pos c10] at H
      have c10b0 : decide (x7_1 < a1) = true := decide_eq_true c10
      clear c10
      have HC11 := aM H
      clear H
      go_upto_block 2 with (fail)
      go_cut [] (fun wc => ∃ (kq : Nat) (x5_10 : List Bool), Aside0 (spec_l4Star.j2 kq a1 x5_10 x6_1 x7_1 l0_0 l0_1 = some r) ∧ Aside0 (kq ≤ k1) ∧ Aside0 (Kd.R Kd.bool 4 wc w.heap.size (fun _ => True) v503 x5_10) ∧ Aside0 (Kd.R (Kd.int .i64) 3 wc w.heap.size (fun _ => True) u6 x6_1) ∧ Aside0 (wc.heap[gb501]? = some (.cells #[(.slice A0_0 l0_0.length c0_0), (.slice A0_1 l0_1.length c0_1)] 94 (0, 0))) ∧ Aside0 (Below w.heap.size w wc))
      case first =>
       have H := HC11.out
       clear HC11
       have H' := aM H
       clear H
       go_wp2
       go_loopg [8] k1 (fun kq v8 w' => ∃ (x5_2 : List Bool) (x8_2 : Int), v8 = .int .i64 x8_2 ∧ Aside0 (spec_l4Star.l1 kq a1 x5_2 x6_1 x7_1 x8_2 l0_0 l0_1 = some r) ∧ Aside0 (kq ≤ k1) ∧ Aside0 (Kd.R Kd.bool 4 w' w.heap.size (fun _ => True) v503 x5_2) ∧ Aside0 (Kd.R (Kd.int .i64) 3 w' w.heap.size (fun _ => True) u6 x6_1) ∧ Aside0 (w'.heap[gb501]? = some (.cells #[(.slice A0_0 l0_0.length c0_0), (.slice A0_1 l0_1.length c0_1)] 94 (0, 0))) ∧ Aside0 (Below w.heap.size w w'))
       case atStart => exact ⟨(x5_1), (0), (by rfl), H', ⟨Nat.le_refl _⟩, ⟨by exact HO_5.out⟩, ⟨by exact HO_6.out⟩, ⟨by exact BK501.out⟩, ⟨HB.out⟩⟩
       case round =>
        clear H'
        try clear c10b0
        obtain ⟨x5_2, x8_2, rfl, HA, HK2, HO_5, HO_6, BK501, HB⟩ := hrel
        cases gk with
        | zero => exact absurd HA.out (by simp [spec_l4Star.l1])
        | succ k2 =>
         have H := HA.out
         clear HA
         simp only [spec_l4Star.l1] at H
         by_cases c12 : x8_2 < (x6_1.length : Int)
         ·rw [if_pos c12] at H
          have c12b0 : decide (x8_2 < (x6_1.length : Int)) = true := decide_eq_true c12
          clear c12
          by_cases c13 : 0 ≤ x7_1
          ·rw [if_pos c13] at H
           have c13b0 : decide (0 ≤ x7_1) = true := decide_eq_true c13
           clear c13
           by_cases c14 : x7_1 < (x5_2.length : Int)
           ·rw [if_pos c14] at H
            have c14b0 : decide (x7_1 < (x5_2.length : Int)) = true := decide_eq_true c14
            clear c14
            obtain ⟨bq15, hbq15⟩ : ∃ b_ : Bool, b_ = (rdOf false x5_2 x7_1) := ⟨_, rfl⟩
            replace H : (if bq15 = true then (spec_l4Star.j2 k2 a1 x5_2 x6_1 x7_1 l0_0 l0_1) else (if 0 ≤ x8_2 then (if 0 ≤ (wrap64 (x7_1 - (rd x6_1 x8_2))) then (if (wrap64 (x7_1 - (rd x6_1 x8_2))) < (x5_2.length : Int) then (spec_l4Star.l1 k2 a1 (x5_2.set (x7_1 : Int).toNat (rdOf false x5_2 (wrap64 (x7_1 - (rd x6_1 x8_2))))) x6_1 x7_1 (wrap64 (x8_2 + 1)) l0_0 l0_1) else (none)) else (none)) else (none))) = some r := by rw [← hbq15] at H; exact H
            have Nbq15 := aM hbq15
            clear hbq15
            by_cases c16 : bq15 = true
            ·subst c16
             replace H : (spec_l4Star.j2 k2 a1 x5_2 x6_1 x7_1 l0_0 l0_1) = some r := by rw [if_pos rfl] at H; exact H
             have H' := aM H
             clear H
             obtain ⟨Ao17, co17, eo17⟩ := Kd.R_slice HO_6.out
             subst eo17
             obtain ⟨Ao18, co18, eo18⟩ := Kd.R_slice HO_5.out
             subst eo18
             have p508 : 0 ≤ (x7_1 : Int) := of_decide_eq_true (by (with_reducible assumption))
             have q508 : x7_1 < (x5_2.length : Int) := of_decide_eq_true (by (with_reducible assumption))
             obtain ⟨ad508, e508, hx508_0⟩ := Kd.at_bool (Kd.R_reads' HO_5.out).2.2 x7_1 p508 q508
             (try rw [← Nbq15.out] at hx508_0)
             cases e508
             replace p508 := eq_true p508
             replace q508 := eq_true q508
             go_wp2
             go_meet
             case rel => exact ⟨_, (x5_2), H', ⟨by have := HK1.out; have := HK2.out; omega⟩, ⟨by exact HO_5.out⟩, ⟨by exact HO_6.out⟩, ⟨by exact BK501.out⟩, ⟨HB.out⟩⟩
            ·replace c16 := Bool.eq_false_iff.mpr c16
             subst c16
             replace H : (if 0 ≤ x8_2 then (if 0 ≤ (wrap64 (x7_1 - (rd x6_1 x8_2))) then (if (wrap64 (x7_1 - (rd x6_1 x8_2))) < (x5_2.length : Int) then (spec_l4Star.l1 k2 a1 (x5_2.set (x7_1 : Int).toNat (rdOf false x5_2 (wrap64 (x7_1 - (rd x6_1 x8_2))))) x6_1 x7_1 (wrap64 (x8_2 + 1)) l0_0 l0_1) else (none)) else (none)) else (none)) = some r := by rw [if_neg (show ¬ (false = true) by decide)] at H; exact H
             by_cases c19 : 0 ≤ x8_2
             ·rw [if_pos c19] at H
              have c19b0 : decide (0 ≤ x8_2) = true := decide_eq_true c19
              clear c19
              obtain ⟨ji20, hji20⟩ : ∃ j_ : Int, (wrap64 (x7_1 - (rd x6_1 x8_2))) = j_ := ⟨_, rfl⟩
              replace H : (if 0 ≤ (ji20) then (if (ji20) < (x5_2.length : Int) then (spec_l4Star.l1 k2 a1 (x5_2.set (x7_1 : Int).toNat (rdOf false x5_2 (ji20))) x6_1 x7_1 (wrap64 (x8_2 + 1)) l0_0 l0_1) else (none)) else (none)) = some r := by first | (rw [hji20] at H; exact H)
              have hji20w : (IntKind.i64.wrap (x7_1 - (rd x6_1 x8_2))) = ji20 := (i64_w _).trans hji20
              by_cases c21 : 0 ≤ (ji20)
              ·rw [if_pos c21] at H
               have c21b0 : decide (0 ≤ (ji20)) = true := decide_eq_true c21
               clear c21
               by_cases c22 : (ji20) < (x5_2.length : Int)
               ·rw [if_pos c22] at H
                have c22b0 : decide ((ji20) < (x5_2.length : Int)) = true := decide_eq_true c22
                clear c22
                obtain ⟨y511, hy511⟩ : ∃ y_ : List Bool, y_ = (x5_2.set (x7_1 : Int).toNat (rdOf false x5_2 (ji20))) := ⟨_, rfl⟩
                replace H : (spec_l4Star.l1 k2 a1 y511 x6_1 x7_1 (wrap64 (x8_2 + 1)) l0_0 l0_1) = some r := by first | (rw [hy511]; with_reducible exact H)
                have Ny511 := aM hy511
                clear hy511
                have H' := aM H
                clear H
                obtain ⟨Ao24, co24, eo24⟩ := Kd.R_slice HO_6.out
                subst eo24
                obtain ⟨Ao25, co25, eo25⟩ := Kd.R_slice HO_5.out
                subst eo25
                have p508 : 0 ≤ (x7_1 : Int) := of_decide_eq_true (by (with_reducible assumption))
                have q508 : x7_1 < (x5_2.length : Int) := of_decide_eq_true (by (with_reducible assumption))
                obtain ⟨ad508, e508, hx508_0⟩ := Kd.at_bool (Kd.R_reads' HO_5.out).2.2 x7_1 p508 q508
                (try rw [← Nbq15.out] at hx508_0)
                cases e508
                replace p508 := eq_true p508
                replace q508 := eq_true q508
                have p509 : 0 ≤ (x8_2 : Int) := of_decide_eq_true (by (with_reducible assumption))
                have q509 : x8_2 < (x6_1.length : Int) := of_decide_eq_true (by (with_reducible assumption))
                obtain ⟨ad509, e509, hx509_0⟩ := Kd.at_int (Kd.R_reads' HO_6.out).2.2 x8_2 p509 q509
                cases e509
                replace p509 := eq_true p509
                replace q509 := eq_true q509
                have p510 : 0 ≤ ((ji20) : Int) := of_decide_eq_true (by (with_reducible assumption))
                have q510 : (ji20) < (x5_2.length : Int) := of_decide_eq_true (by (with_reducible assumption))
                obtain ⟨ad510, e510, hx510_0⟩ := Kd.at_bool (Kd.R_reads' HO_5.out).2.2 (ji20) p510 q510
                obtain rfl : ad508 = ad510 := (by injection e510)
                replace p510 := eq_true p510
                replace q510 := eq_true q510
                have p23 : 0 ≤ (x7_1 : Int) := of_decide_eq_true (by (with_reducible assumption))
                have q23 : (x7_1 : Int) < ((x5_2.length : Int) : Int) := of_decide_eq_true (by (with_reducible assumption))
                obtain ⟨go23, co23, eo23, gb23, gl23, cl23, HG23⟩ := Kd.R_form HO_5.out (by omega)
                (cases eo23)
                have GB23 := aM gb23
                have GG23 := aM HG23
                clear gb23 gl23 HG23
                (simp only [add_plain] at hx508_0)
                (simp only [add_plain] at hx510_0)
                obtain ⟨hx23_0, hf23_0⟩ := Kd.R_celln false HO_5.out (x7_1 : Int) p23 q23
                replace p23 := eq_true p23
                replace q23 := eq_true q23
                have HP26 := Kd.R_putg HO_5.out (x7_1 : Int) (rdOf false x5_2 (ji20))
                go_wp2_with (first | ((with_reducible refine gate_store (t := 4) (p := 41) rfl ?_); refine store_event (t := 4) (p := 41) (v := ?vo_w27) (w1 := (wr.setCell ⟨go23, (x7_1 : Int).toNat, none⟩ (.bool (rdOf false x5_2 (ji20))))) ?hg ?ho ?hn ?hr ?_; (case ho => rfl); (case hg => rfl); (case hn => rfl); (case hr => first | (go_simp; done)); intro w27 hw; have hg : wr.grownBy w27 (some go23) := (by rw [hw]; exact HP26.2); have hp_ : Kd.R Kd.bool 4 w27 w.heap.size (fun _ => True) (.slice (some ⟨go23, 0, none⟩) x5_2.length co25) y511 := (by rw [hw, Ny511.out]; exact HP26.1); clear HP26; replace HO_6 := aM (Kd.R_over' (v := (.slice (some ⟨go23, 0, none⟩) x5_2.length co25)) HO_6.out (Kd.R_typed HO_5.out) (by decide) hg); replace BK501 := aM (blk_grown (g := gb501) (o := .cells #[.slice A0_0 l0_0.length c0_0, .slice A0_1 l0_1.length c0_1] 94 (0, 0)) BK501.out hg (Kd.R_ne HO_5.out BK501.out (by decide))); replace HO_5 := aM hp_; replace HB := aM ((by rw [hw]; exact bS (HB.out) GB23.out : Below w.heap.size w w27)); clear hg hw hp_))
                go_roundg k2
                case measure => have := HK1.out; have := HK2.out; omega
                case rel => exact ⟨(y511), (wrap64 (x8_2 + 1)), (by rfl), H', ⟨by have := HK1.out; have := HK2.out; omega⟩, ⟨by exact HO_5.out⟩, ⟨by exact HO_6.out⟩, ⟨by exact BK501.out⟩, ⟨HB.out⟩⟩
               ·rw [if_neg c22] at H
                exact absurd H (by simp)
              ·rw [if_neg c21] at H
               exact absurd H (by simp)
             ·rw [if_neg c19] at H
              exact absurd H (by simp)
           ·rw [if_neg c14] at H
            exact absurd H (by simp)
          ·rw [if_neg c13] at H
           exact absurd H (by simp)
         ·rw [if_neg c12] at H
          have c12b0 : decide (x8_2 < (x6_1.length : Int)) = false := decide_eq_false c12
          clear c12
          have H' := aM H
          clear H
          obtain ⟨Ao28, co28, eo28⟩ := Kd.R_slice HO_6.out
          subst eo28
          go_wp2
          go_meet
          case rel => exact ⟨_, (x5_2), H', ⟨by have := HK1.out; have := HK2.out; omega⟩, ⟨by exact HO_5.out⟩, ⟨by exact HO_6.out⟩, ⟨by exact BK501.out⟩, ⟨HB.out⟩⟩
      case rest =>
       clear HC11
       try clear c10b0
       obtain ⟨kq, x5_10, HA, HJ10, HO_5, HO_6, BK501, HB⟩ := hcut
       cases kq with
       | zero => exact absurd HA.out (by simp [spec_l4Star.j2])
       | succ kj10 =>
        have H := HA.out
        clear HA
        simp only [spec_l4Star.j2] at H
        by_cases c29 : x7_1 = 0
        ·rw [if_pos c29] at H
         have c29b0 : (x7_1 == 0) = true := beq_iff_eq.mpr c29
         have c29b1 : (x7_1 != 0) = false := bne_eq_false_iff_eq.mpr c29
         clear c29
         by_cases c30 : 0 < (x5_10.length : Int)
         ·rw [if_pos c30] at H
          have c30b0 : decide (0 < (x5_10.length : Int)) = true := decide_eq_true c30
          have c30b1 : decide (0 < x5_10.length) = true := decide_eq_true (by omega)
          clear c30
          obtain ⟨y512, hy512⟩ : ∃ y_ : List Bool, y_ = (x5_10.set (0 : Int).toNat true) := ⟨_, rfl⟩
          replace H : (spec_l4Star.l0 kj10 a1 y512 x6_1 (wrap64 (x7_1 + 1)) l0_0 l0_1) = some r := by first | (rw [hy512]; with_reducible exact H)
          have Ny512 := aM hy512
          clear hy512
          have H' := aM H
          clear H
          have p31 : 0 ≤ (0 : Int) := (by omega)
          have q31 : (0 : Int) < ((x5_10.length : Int) : Int) := of_decide_eq_true (by (with_reducible assumption))
          have qi31 : (0 < x5_10.length) = True := eq_true (by omega)
          obtain ⟨go31, co31, eo31, gb31, gl31, cl31, HG31⟩ := Kd.R_form HO_5.out (by omega)
          (cases eo31)
          have GB31 := aM gb31
          have GG31 := aM HG31
          clear gb31 gl31 HG31
          obtain ⟨hx31_0, hf31_0⟩ := Kd.R_celln false HO_5.out (0 : Int) p31 q31
          (try rw [show ((0 : Int)).toNat = 0 from rfl] at hx31_0)
          (try rw [show ((0 : Int)).toNat = 0 from rfl] at hf31_0)
          replace p31 := eq_true p31
          replace q31 := eq_true q31
          have HP32 := Kd.R_putg HO_5.out (0 : Int) true
          go_wp2_with (first | ((with_reducible refine gate_store (t := 4) (p := 45) rfl ?_); refine store_event (t := 4) (p := 45) (v := ?vo_w33) (w1 := (wc.setCell ⟨go31, (0 : Int).toNat, none⟩ (.bool true))) ?hg ?ho ?hn ?hr ?_; (case ho => rfl); (case hg => rfl); (case hn => rfl); (case hr => first | (go_simp; done)); intro w33 hw; have hg : wc.grownBy w33 (some go31) := (by rw [hw]; exact HP32.2); have hp_ : Kd.R Kd.bool 4 w33 w.heap.size (fun _ => True) (.slice (some ⟨go31, 0, none⟩) x5_10.length co31) y512 := (by rw [hw, Ny512.out]; exact HP32.1); clear HP32; replace HO_6 := aM (Kd.R_over' (v := (.slice (some ⟨go31, 0, none⟩) x5_10.length co31)) HO_6.out (Kd.R_typed HO_5.out) (by decide) hg); replace BK501 := aM (blk_grown (g := gb501) (o := .cells #[.slice A0_0 l0_0.length c0_0, .slice A0_1 l0_1.length c0_1] 94 (0, 0)) BK501.out hg (Kd.R_ne HO_5.out BK501.out (by decide))); replace HO_5 := aM hp_; replace HB := aM ((by rw [hw]; exact bS (HB.out) GB31.out : Below w.heap.size w w33)); clear hg hw hp_))
          go_roundg kj10
          case measure => have := HK1.out; have := HJ10.out; omega
          case rel => exact ⟨(y512), (x6_1), (wrap64 (x7_1 + 1)), (by rfl), H', ⟨by have := HK1.out; have := HJ10.out; omega⟩, ⟨by exact HO_5.out⟩, ⟨by exact HO_6.out⟩, ⟨by exact BK501.out⟩, ⟨HB.out⟩⟩
         ·rw [if_neg c30] at H
          exact absurd H (by simp)
        ·rw [if_neg c29] at H
         have c29b0 : (x7_1 == 0) = false := beq_eq_false_iff_ne.mpr c29
         have c29b1 : (x7_1 != 0) = true := bne_iff_ne.mpr c29
         by_cases c34 : 0 ≤ x7_1
         ·rw [if_pos c34] at H
          have c34b0 : decide (0 ≤ x7_1) = true := decide_eq_true c34
          clear c34
          by_cases c35 : x7_1 < (x5_10.length : Int)
          ·rw [if_pos c35] at H
           have c35b0 : decide (x7_1 < (x5_10.length : Int)) = true := decide_eq_true c35
           clear c35
           obtain ⟨bq36, hbq36⟩ : ∃ b_ : Bool, b_ = (rdOf false x5_10 x7_1) := ⟨_, rfl⟩
           replace H : (if bq36 = true then (spec_l4Star.l0 kj10 a1 x5_10 x6_1 (wrap64 (x7_1 + 1)) l0_0 l0_1) else ((spec_l1Has.f l0_0 l0_1 x7_1).bind fun t514 => (if t514 = true then (if x6_1.length < 17592186044416 then (spec_l4Star.l0 kj10 a1 (x5_10.set (x7_1 : Int).toNat true) (x6_1 ++ [x7_1]) (wrap64 (x7_1 + 1)) l0_0 l0_1) else (none)) else (spec_l4Star.l0 kj10 a1 x5_10 x6_1 (wrap64 (x7_1 + 1)) l0_0 l0_1)))) = some r := by rw [← hbq36] at H; exact H
           have Nbq36 := aM hbq36
           clear hbq36
           by_cases c37 : bq36 = true
           ·subst c37
            replace H : (spec_l4Star.l0 kj10 a1 x5_10 x6_1 (wrap64 (x7_1 + 1)) l0_0 l0_1) = some r := by rw [if_pos rfl] at H; exact H
            have H' := aM H
            clear H
            obtain ⟨Ao38, co38, eo38⟩ := Kd.R_slice HO_5.out
            subst eo38
            have p513 : 0 ≤ (x7_1 : Int) := of_decide_eq_true (by (with_reducible assumption))
            have q513 : x7_1 < (x5_10.length : Int) := of_decide_eq_true (by (with_reducible assumption))
            obtain ⟨ad513, e513, hx513_0⟩ := Kd.at_bool (Kd.R_reads' HO_5.out).2.2 x7_1 p513 q513
            (try rw [← Nbq36.out] at hx513_0)
            cases e513
            replace p513 := eq_true p513
            replace q513 := eq_true q513
            go_wp2
            go_roundg kj10
            case measure => have := HK1.out; have := HJ10.out; omega
            case rel => exact ⟨(x5_10), (x6_1), (wrap64 (x7_1 + 1)), (by rfl), H', ⟨by have := HK1.out; have := HJ10.out; omega⟩, ⟨by exact HO_5.out⟩, ⟨by exact HO_6.out⟩, ⟨by exact BK501.out⟩, ⟨HB.out⟩⟩
           ·replace c37 := Bool.eq_false_iff.mpr c37
            subst c37
            replace H : ((spec_l1Has.f l0_0 l0_1 x7_1).bind fun t514 => (if t514 = true then (if x6_1.length < 17592186044416 then (spec_l4Star.l0 kj10 a1 (x5_10.set (x7_1 : Int).toNat true) (x6_1 ++ [x7_1]) (wrap64 (x7_1 + 1)) l0_0 l0_1) else (none)) else (spec_l4Star.l0 kj10 a1 x5_10 x6_1 (wrap64 (x7_1 + 1)) l0_0 l0_1))) = some r := by rw [if_neg (show ¬ (false = true) by decide)] at H; exact H
            replace H := Option.bind_eq_some_iff.mp H
            obtain ⟨t514, A390, H⟩ := H
            replace H : (if t514 = true then (if x6_1.length < 17592186044416 then (spec_l4Star.l0 kj10 a1 (x5_10.set (x7_1 : Int).toNat true) (x6_1 ++ [x7_1]) (wrap64 (x7_1 + 1)) l0_0 l0_1) else (none)) else (spec_l4Star.l0 kj10 a1 x5_10 x6_1 (wrap64 (x7_1 + 1)) l0_0 l0_1)) = some r := H
            have A39 := aM A390
            clear A390
            by_cases c40 : t514 = true
            ·subst c40
             replace H : (if x6_1.length < 17592186044416 then (spec_l4Star.l0 kj10 a1 (x5_10.set (x7_1 : Int).toNat true) (x6_1 ++ [x7_1]) (wrap64 (x7_1 + 1)) l0_0 l0_1) else (none)) = some r := by rw [if_pos rfl] at H; exact H
             obtain ⟨y515, hy515⟩ : ∃ y_ : List Bool, y_ = (x5_10.set (x7_1 : Int).toNat true) := ⟨_, rfl⟩
             replace H : (if x6_1.length < 17592186044416 then (spec_l4Star.l0 kj10 a1 y515 (x6_1 ++ [x7_1]) (wrap64 (x7_1 + 1)) l0_0 l0_1) else (none)) = some r := by first | (rw [hy515]; with_reducible exact H)
             have Ny515 := aM hy515
             clear hy515
             by_cases c42 : x6_1.length < 17592186044416
             ·rw [if_pos c42] at H
              have LMc42 := aM c42
              clear c42
              obtain ⟨y516, hy516⟩ : ∃ y_ : List Int, y_ = (x6_1 ++ [x7_1]) := ⟨_, rfl⟩
              replace H : (spec_l4Star.l0 kj10 a1 y515 y516 (wrap64 (x7_1 + 1)) l0_0 l0_1) = some r := by first | (rw [hy516]; with_reducible exact H)
              have Ny516 := aM hy516
              clear hy516
              have H' := aM H
              clear H
              obtain ⟨Ao43, co43, eo43⟩ := Kd.R_slice HO_5.out
              subst eo43
              have p513 : 0 ≤ (x7_1 : Int) := of_decide_eq_true (by (with_reducible assumption))
              have q513 : x7_1 < (x5_10.length : Int) := of_decide_eq_true (by (with_reducible assumption))
              obtain ⟨ad513, e513, hx513_0⟩ := Kd.at_bool (Kd.R_reads' HO_5.out).2.2 x7_1 p513 q513
              (try rw [← Nbq36.out] at hx513_0)
              cases e513
              replace p513 := eq_true p513
              replace q513 := eq_true q513
              have hcz44_0 : wc.cell? ⟨gb501, 0, none⟩ = some (.slice A0_0 l0_0.length c0_0) := (blk_cell BK501.out 0).trans rfl
              have hcz44_1 : wc.cell? ⟨gb501, 1, none⟩ = some (.slice A0_1 l0_1.length c0_1) := (blk_cell BK501.out 1).trans rfl
              have hfz44_0 := blk_frozen BK501.out 0
              have hfz44_1 := blk_frozen BK501.out 1
              go_wp2_with (first | (go_at_call 97; (with_reducible refine (spec_l1Has.calls _ _ l0_0 _ _ l0_1 x7_1 true _ ?side1 ?side2 ?side3 ?side4 A39.out).mono ?_); (case side1 => repeat (exact (Kd.C_below HR0_0.out HB.out))); (case side2 => exact HC0_0.out); (case side3 => repeat (exact (Kd.C_below HR0_1.out HB.out))); (case side4 => exact HC0_1.out); rintro e w45 ⟨rfl, hb⟩; replace HO_5 := aM (Kd.R_below HO_5.out hb); replace HO_6 := aM (Kd.R_below HO_6.out hb); replace BK501 := aM (blk_below (g := gb501) (o := .cells #[.slice A0_0 l0_0.length c0_0, .slice A0_1 l0_1.length c0_1] 94 (0, 0)) BK501.out hb); replace HB := aM (below_step HB.out hb); (try clear hb); have p41 : 0 ≤ (x7_1 : Int) := of_decide_eq_true (by (with_reducible assumption)); have q41 : (x7_1 : Int) < ((x5_10.length : Int) : Int) := of_decide_eq_true (by (with_reducible assumption)); obtain ⟨go41, co41, eo41, gb41, gl41, cl41, HG41⟩ := Kd.R_form HO_5.out (by omega); (cases eo41); have GB41 := aM gb41; have GG41 := aM HG41; clear gb41 gl41 HG41; (simp only [add_plain] at hx513_0); obtain ⟨hx41_0, hf41_0⟩ := Kd.R_celln false HO_5.out (x7_1 : Int) p41 q41; replace p41 := eq_true p41; replace q41 := eq_true q41; obtain ⟨hy46_, hz46_⟩ := Kd.R_celln false HO_5.out (x7_1 : Int) (of_decide_eq_true (by (with_reducible assumption))) (of_decide_eq_true (by (with_reducible assumption))); have HP46 := Kd.R_putg HO_5.out (x7_1 : Int) true) | ((with_reducible refine gate_store (t := 4) (p := 58) rfl ?_); refine store_event (t := 4) (p := 58) (v := ?vo_w47) (w1 := (w45.setCell ⟨go41, (x7_1 : Int).toNat, none⟩ (.bool true))) ?hg ?ho ?hn ?hr ?_; (case ho => rfl); (case hg => rfl); (case hn => rfl); (case hr => first | (go_simp; done)); intro w47 hw; have hg : w45.grownBy w47 (some go41) := (by rw [hw]; exact HP46.2); have hp_ : Kd.R Kd.bool 4 w47 w.heap.size (fun _ => True) (.slice (some ⟨go41, 0, none⟩) x5_10.length co43) y515 := (by rw [hw, Ny515.out]; exact HP46.1); clear HP46; replace HO_6 := aM (Kd.R_over' (v := (.slice (some ⟨go41, 0, none⟩) x5_10.length co43)) HO_6.out (Kd.R_typed HO_5.out) (by decide) hg); replace BK501 := aM (blk_grown (g := gb501) (o := .cells #[.slice A0_0 l0_0.length c0_0, .slice A0_1 l0_1.length c0_1] 94 (0, 0)) BK501.out hg (Kd.R_ne HO_5.out BK501.out (by decide))); replace HO_5 := aM hp_; replace HB := aM ((by rw [hw]; exact bS (HB.out) GB41.out : Below w.heap.size w w47)); clear hg hw hp_) | ((with_reducible refine gate_builtin (b := .append) (xs := #[.tmp 59, .tmp 61]) rfl ?_); at_builtin; refine Kd.R_append (Kd.int .i64) (w0 := w) w.heap.size rfl (.tmp 59) (.tmp 61) 33 3 (.int .i64 0) 8 rfl Try.underlying33 info3 rfl (by decide) (by omega) u6 x6_1 x7_1 [.int .i64 x7_1] (fun _ => True) (fun _ => False) rfl rfl ?aP (fun _ hk => hk.elim) ?aF ?aO ?aB ?aS ?aL ?_; (case aP => exact rfl); (case aB => exact HB.out); (case aF => exact (fun _ _ => trivial)); (case aO => exact HO_6.out); (case aS => exact (below_size HB.out)); (case aL => have := LMc42.out; omega); intro v517 w48 ho hb hg hat; rw [← Ny516.out] at ho; replace HO_5 := aM (Kd.R_over' HO_5.out (Kd.R_typed HO_6.out) (by decide) hg); replace BK501 := aM (blk_grown (g := gb501) (o := .cells #[.slice A0_0 l0_0.length c0_0, .slice A0_1 l0_1.length c0_1] 94 (0, 0)) BK501.out hg (Kd.R_ne HO_6.out BK501.out (by decide))); replace HB := aM hb; have HO518 := aM ho; clear HO_6; clear ho hb hg hat))
              go_roundg kj10
              case measure => have := HK1.out; have := HJ10.out; omega
              case rel => exact ⟨(y515), (y516), (wrap64 (x7_1 + 1)), (by rfl), H', ⟨by have := HK1.out; have := HJ10.out; omega⟩, ⟨by exact HO_5.out⟩, ⟨by exact HO518.out⟩, ⟨by exact BK501.out⟩, ⟨HB.out⟩⟩
             ·rw [if_neg c42] at H
              exact absurd H (by simp)
            ·replace c40 := Bool.eq_false_iff.mpr c40
             subst c40
             replace H : (spec_l4Star.l0 kj10 a1 x5_10 x6_1 (wrap64 (x7_1 + 1)) l0_0 l0_1) = some r := by rw [if_neg (show ¬ (false = true) by decide)] at H; exact H
             have H' := aM H
             clear H
             obtain ⟨Ao49, co49, eo49⟩ := Kd.R_slice HO_5.out
             subst eo49
             have p513 : 0 ≤ (x7_1 : Int) := of_decide_eq_true (by (with_reducible assumption))
             have q513 : x7_1 < (x5_10.length : Int) := of_decide_eq_true (by (with_reducible assumption))
             obtain ⟨ad513, e513, hx513_0⟩ := Kd.at_bool (Kd.R_reads' HO_5.out).2.2 x7_1 p513 q513
             (try rw [← Nbq36.out] at hx513_0)
             cases e513
             replace p513 := eq_true p513
             replace q513 := eq_true q513
             have hcz50_0 : wc.cell? ⟨gb501, 0, none⟩ = some (.slice A0_0 l0_0.length c0_0) := (blk_cell BK501.out 0).trans rfl
             have hcz50_1 : wc.cell? ⟨gb501, 1, none⟩ = some (.slice A0_1 l0_1.length c0_1) := (blk_cell BK501.out 1).trans rfl
             have hfz50_0 := blk_frozen BK501.out 0
             have hfz50_1 := blk_frozen BK501.out 1
             go_wp2_with (first | (go_at_call 97; (with_reducible refine (spec_l1Has.calls _ _ l0_0 _ _ l0_1 x7_1 false _ ?side1 ?side2 ?side3 ?side4 A39.out).mono ?_); (case side1 => repeat (exact (Kd.C_below HR0_0.out HB.out))); (case side2 => exact HC0_0.out); (case side3 => repeat (exact (Kd.C_below HR0_1.out HB.out))); (case side4 => exact HC0_1.out); rintro e w51 ⟨rfl, hb⟩; replace HO_5 := aM (Kd.R_below HO_5.out hb); replace HO_6 := aM (Kd.R_below HO_6.out hb); replace BK501 := aM (blk_below (g := gb501) (o := .cells #[.slice A0_0 l0_0.length c0_0, .slice A0_1 l0_1.length c0_1] 94 (0, 0)) BK501.out hb); replace HB := aM (below_step HB.out hb); (try clear hb)))
             go_roundg kj10
             case measure => have := HK1.out; have := HJ10.out; omega
             case rel => exact ⟨(x5_10), (x6_1), (wrap64 (x7_1 + 1)), (by rfl), H', ⟨by have := HK1.out; have := HJ10.out; omega⟩, ⟨by exact HO_5.out⟩, ⟨by exact HO_6.out⟩, ⟨by exact BK501.out⟩, ⟨HB.out⟩⟩
          ·rw [if_neg c35] at H
           exact absurd H (by simp)
         ·rw [if_neg c34] at H
          exact absurd H (by simp)
     ·rw [if_neg c10] at H
      have c10b0 : decide (x7_1 < a1) = false := decide_eq_false c10
      clear c10
      obtain rfl := Option.some.inj H
      go_wp2
      go_ret
      exact ⟨_, by first | rfl | (simp [*, errW_none, errW_some] <;> rfl), by exact HO_5.out, HB.out⟩
  ·rw [if_neg c4] at H
   exact absurd H (by simp)
 ·rw [if_neg c3] at H
  exact absurd H (by simp)


def spec_l4Whole.f (k : Nat) (l0_0 : List Bool) (l0_1 : List Bool) : Option (ByteArray × Bool) := (spec_l4Least.f k l0_0 l0_1).bind fun t520 => (if t520 = 0 then (some ((⟨#[49, 40, 48, 41]⟩ : ByteArray), true)) else ((spec_l4Star.f k l0_0 l0_1 (wrap64 (2400 + t520))).bind fun t521 => ((spec_l2Fill.f k t521 2400).bind fun bt524 => (some (bt524.1, bt524.2)))))
theorem spec_l4Whole.mono : ∀ a0 a1 k, LeO (spec_l4Whole.f k a0 a1) (spec_l4Whole.f (k + 1) a0 a1) := by
 intro a0 a1 k
 unfold spec_l4Whole.f
 repeat' first | (with_reducible exact spec_l2Fill.mono _ _ _) | (with_reducible exact spec_l4Least.mono _ _ _) | (with_reducible exact spec_l4Star.mono _ _ _ _) | (with_reducible exact LeO.refl _) | (with_reducible refine LeO.ite ?_ ?_) | (with_reducible refine LeO.bind ?_ (fun _ => ?_))
set_option maxHeartbeats 8000000 in
set_option maxRecDepth 100000 in
theorem spec_l4Whole.calls (k : Nat) (A0_0 : Option Addr) (c0_0 : Nat) (l0_0 : List Bool) (A0_1 : Option Addr) (c0_1 : Nat) (l0_1 : List Bool) (r1 : ByteArray) (r2 : Bool) (w : World) (hr0_0 : Kd.C Kd.bool w A0_0 l0_0.length l0_0) (hc0_0 : l0_0.length ≤ c0_0) (hr0_1 : Kd.C Kd.bool w A0_1 l0_1.length l0_1) (hc0_1 : l0_1.length ≤ c0_1) (h : spec_l4Whole.f k l0_0 l0_1 = some (r1, r2)) :
  Calls Try.prog 75 #[.agg #[.slice A0_0 l0_0.length c0_0, .slice A0_1 l0_1.length c0_1]] w fun e w' => e = .returned (.tuple #[.string r1, .bool r2]) ∧ Below w.heap.size w w' := by
 have hu94 := Try.underlying94
 have HR0_0 := aM hr0_0
 have HC0_0 := aM hc0_0
 clear hr0_0 hc0_0
 have HR0_1 := aM hr0_1
 have HC0_1 := aM hc0_1
 clear hr0_1 hc0_1
 have HB := aM (Below.refl w.heap.size w)
 have H : ((spec_l4Least.f k l0_0 l0_1).bind fun t520 => (if t520 = 0 then (some ((⟨#[49, 40, 48, 41]⟩ : ByteArray), true)) else ((spec_l4Star.f k l0_0 l0_1 (wrap64 (2400 + t520))).bind fun t521 => ((spec_l2Fill.f k t521 2400).bind fun bt524 => (some (bt524.1, bt524.2)))))) = some (r1, r2) := h
 clear h
 replace H := Option.bind_eq_some_iff.mp H
 obtain ⟨t520, A20, H⟩ := H
 replace H : (if t520 = 0 then (some ((⟨#[49, 40, 48, 41]⟩ : ByteArray), true)) else ((spec_l4Star.f k l0_0 l0_1 (wrap64 (2400 + t520))).bind fun t521 => ((spec_l2Fill.f k t521 2400).bind fun bt524 => (some (bt524.1, bt524.2))))) = some (r1, r2) := H
 have A2 := aM A20
 clear A20
 by_cases c3 : t520 = 0
 ·rw [if_pos c3] at H
  have c3b0 : (t520 == 0) = true := beq_iff_eq.mpr c3
  have c3b1 : (t520 != 0) = false := bne_eq_false_iff_eq.mpr c3
  clear c3
  simp only [Option.some.injEq, Prod.mk.injEq] at H
  obtain ⟨rfl, rfl⟩ := H
  go_enter Try.func75, Try.ntmps75
  go_wp2_with (first | ((with_reducible refine gate_dst (N := 1) rfl ?_); refine box_event ?hg (N := 1) ?hd (cs := #[.slice A0_0 l0_0.length c0_0, .slice A0_1 l0_1.length c0_1]) (t := 94) ?hr ?_; (case hd => rfl); (case hg => rfl); (case hr => first | (go_simp; done)); intro gb519 hg w4 hbox hb; have BK519 := aM hbox; have GW519 := aM ((by rw [hg]; exact (below_size HB.out) : w.heap.size ≤ gb519)); have GE519 := aM ((by rw [hg]; exact (below_size HB.out) : w.heap.size ≤ gb519)); replace HB := aM (below_step HB.out hb); clear hb hbox hg; have hcz5_0 : w4.cell? ⟨gb519, 0, none⟩ = some (.slice A0_0 l0_0.length c0_0) := (blk_cell BK519.out 0).trans rfl; have hcz5_1 : w4.cell? ⟨gb519, 1, none⟩ = some (.slice A0_1 l0_1.length c0_1) := (blk_cell BK519.out 1).trans rfl; have hfz5_0 := blk_frozen BK519.out 0; have hfz5_1 := blk_frozen BK519.out 1) | ((with_reducible refine gate_callee (f := 93) rfl ?_); refine goesL_ (some 6) rfl rfl Try.func93 (by kernel_rfl) rfl #[.agg #[.slice A0_0 l0_0.length c0_0, .slice A0_1 l0_1.length c0_1]] rfl (by (try simp only [List.map_toArray, List.map_cons, List.map_nil]); rfl) ?_; (with_reducible refine (spec_l4Least.calls k _ _ l0_0 _ _ l0_1 t520 _ ?side1 ?side2 ?side3 ?side4 A2.out).mono ?_); (case side1 => repeat (exact (Kd.C_below HR0_0.out HB.out))); (case side2 => exact HC0_0.out); (case side3 => repeat (exact (Kd.C_below HR0_1.out HB.out))); (case side4 => exact HC0_1.out); rintro e w6 ⟨rfl, hb⟩; refine ⟨_, rfl, ?_⟩; replace BK519 := aM (blk_below (g := gb519) (o := .cells #[.slice A0_0 l0_0.length c0_0, .slice A0_1 l0_1.length c0_1] 94 (0, 0)) BK519.out hb); replace HB := aM (below_step HB.out hb); (try clear hb)))
  go_ret2
  exact ⟨by first | rfl | (simp [*, errW_none, errW_some] <;> rfl), HB.out⟩
 ·rw [if_neg c3] at H
  have c3b0 : (t520 == 0) = false := beq_eq_false_iff_ne.mpr c3
  have c3b1 : (t520 != 0) = true := bne_iff_ne.mpr c3
  replace H := Option.bind_eq_some_iff.mp H
  obtain ⟨t521, A70, H⟩ := H
  replace H : ((spec_l2Fill.f k t521 2400).bind fun bt524 => (some (bt524.1, bt524.2))) = some (r1, r2) := H
  have A7 := aM A70
  clear A70
  replace H := Option.bind_eq_some_iff.mp H
  obtain ⟨⟨t524, t525⟩, A80, H⟩ := H
  replace H : (some (t524, t525)) = some (r1, r2) := H
  have A8 := aM A80
  clear A80
  simp only [Option.some.injEq, Prod.mk.injEq] at H
  obtain ⟨rfl, rfl⟩ := H
  go_enter Try.func75, Try.ntmps75
  go_wp2_with (first | ((with_reducible refine gate_dst (N := 1) rfl ?_); refine box_event ?hg (N := 1) ?hd (cs := #[.slice A0_0 l0_0.length c0_0, .slice A0_1 l0_1.length c0_1]) (t := 94) ?hr ?_; (case hd => rfl); (case hg => rfl); (case hr => first | (go_simp; done)); intro gb519 hg w9 hbox hb; have BK519 := aM hbox; have GW519 := aM ((by rw [hg]; exact (below_size HB.out) : w.heap.size ≤ gb519)); have GE519 := aM ((by rw [hg]; exact (below_size HB.out) : w.heap.size ≤ gb519)); replace HB := aM (below_step HB.out hb); clear hb hbox hg; have hcz10_0 : w9.cell? ⟨gb519, 0, none⟩ = some (.slice A0_0 l0_0.length c0_0) := (blk_cell BK519.out 0).trans rfl; have hcz10_1 : w9.cell? ⟨gb519, 1, none⟩ = some (.slice A0_1 l0_1.length c0_1) := (blk_cell BK519.out 1).trans rfl; have hfz10_0 := blk_frozen BK519.out 0; have hfz10_1 := blk_frozen BK519.out 1) | ((with_reducible refine gate_callee (f := 93) rfl ?_); refine goesL_ (some 6) rfl rfl Try.func93 (by kernel_rfl) rfl #[.agg #[.slice A0_0 l0_0.length c0_0, .slice A0_1 l0_1.length c0_1]] rfl (by (try simp only [List.map_toArray, List.map_cons, List.map_nil]); rfl) ?_; (with_reducible refine (spec_l4Least.calls k _ _ l0_0 _ _ l0_1 t520 _ ?side1 ?side2 ?side3 ?side4 A2.out).mono ?_); (case side1 => repeat (exact (Kd.C_below HR0_0.out HB.out))); (case side2 => exact HC0_0.out); (case side3 => repeat (exact (Kd.C_below HR0_1.out HB.out))); (case side4 => exact HC0_1.out); rintro e w11 ⟨rfl, hb⟩; refine ⟨_, rfl, ?_⟩; replace BK519 := aM (blk_below (g := gb519) (o := .cells #[.slice A0_0 l0_0.length c0_0, .slice A0_1 l0_1.length c0_1] 94 (0, 0)) BK519.out hb); replace HB := aM (below_step HB.out hb); (try clear hb); have hcz12_0 : w11.cell? ⟨gb519, 0, none⟩ = some (.slice A0_0 l0_0.length c0_0) := (blk_cell BK519.out 0).trans rfl; have hcz12_1 : w11.cell? ⟨gb519, 1, none⟩ = some (.slice A0_1 l0_1.length c0_1) := (blk_cell BK519.out 1).trans rfl; have hfz12_0 := blk_frozen BK519.out 0; have hfz12_1 := blk_frozen BK519.out 1) | ((with_reducible refine gate_callee (f := 95) rfl ?_); refine goesL_ (some 12) rfl rfl Try.func95 (by kernel_rfl) rfl #[.agg #[.slice A0_0 l0_0.length c0_0, .slice A0_1 l0_1.length c0_1], .int .i64 (wrap64 (2400 + t520))] rfl (by (try simp only [List.map_toArray, List.map_cons, List.map_nil]); rfl) ?_; (with_reducible refine (spec_l4Star.calls k _ _ l0_0 _ _ l0_1 (wrap64 (2400 + t520)) t521 _ ?side1 ?side2 ?side3 ?side4 A7.out).mono ?_); (case side1 => repeat (exact (Kd.C_below HR0_0.out HB.out))); (case side2 => exact HC0_0.out); (case side3 => repeat (exact (Kd.C_below HR0_1.out HB.out))); (case side4 => exact HC0_1.out); rintro e w13 ⟨v522, rfl, ho0, hb⟩; refine ⟨_, rfl, ?_⟩; have HO523 := aM (Kd.R_lower ho0 (below_size HB.out)); replace BK519 := aM (blk_below (g := gb519) (o := .cells #[.slice A0_0 l0_0.length c0_0, .slice A0_1 l0_1.length c0_1] 94 (0, 0)) BK519.out hb); replace HB := aM (below_step HB.out hb); (try clear hb); (try clear ho0); obtain ⟨Ao14, co14, eo14⟩ := Kd.R_slice HO523.out; subst eo14) | ((with_reducible refine gate_callee (f := 94) rfl ?_); refine goesL_ (some 13) rfl rfl Try.func94 (by kernel_rfl) rfl #[.slice Ao14 t521.length co14, .int .i64 2400] rfl (by (try simp only [List.map_toArray, List.map_cons, List.map_nil]); rfl) ?_; (with_reducible refine (spec_l2Fill.calls k _ _ t521 2400 t524 t525 _ ?side1 ?side2 A8.out).mono ?_); (case side1 => repeat (exact (Kd.R_reads' HO523.out).2.2)); (case side2 => exact (Kd.R_reads' HO523.out).2.1); rintro e w15 ⟨rfl, hb⟩; refine ⟨_, rfl, ?_⟩; replace HO523 := aM (Kd.R_below HO523.out hb); replace BK519 := aM (blk_below (g := gb519) (o := .cells #[.slice A0_0 l0_0.length c0_0, .slice A0_1 l0_1.length c0_1] 94 (0, 0)) BK519.out hb); replace HB := aM (below_step HB.out hb); (try clear hb)))
  go_ret2
  exact ⟨by first | rfl | (simp [*, errW_none, errW_some] <;> rfl), HB.out⟩


def spec_StarOf.f (k : Nat) (a0 : ByteArray) : Option (ByteArray × Bool) := (spec_l4Small.f k a0).bind fun bt526 => (if bt526.2.2 = true then ((spec_l4Whole.f k bt526.1 bt526.2.1).bind fun bt534 => (some (bt534.1, bt534.2))) else (some ((⟨#[]⟩ : ByteArray), false)))
theorem spec_StarOf.mono : ∀ a0 k, LeO (spec_StarOf.f k a0) (spec_StarOf.f (k + 1) a0) := by
 intro a0 k
 unfold spec_StarOf.f
 repeat' first | (with_reducible exact spec_l4Small.mono _ _) | (with_reducible exact spec_l4Whole.mono _ _ _) | (with_reducible exact LeO.refl _) | (with_reducible refine LeO.ite ?_ ?_) | (with_reducible refine LeO.bind ?_ (fun _ => ?_))
set_option maxHeartbeats 8000000 in
set_option maxRecDepth 100000 in
theorem spec_StarOf.calls (k : Nat) (a0 : ByteArray) (r1 : ByteArray) (r2 : Bool) (w : World) (h : spec_StarOf.f k a0 = some (r1, r2)) :
  Calls Try.prog 54 #[.string a0] w fun e w' => e = .returned (.tuple #[.string r1, .bool r2]) ∧ Below w.heap.size w w' := by
 have hu94 := Try.underlying94
 have HB := aM (Below.refl w.heap.size w)
 have H : ((spec_l4Small.f k a0).bind fun bt526 => (if bt526.2.2 = true then ((spec_l4Whole.f k bt526.1 bt526.2.1).bind fun bt534 => (some (bt534.1, bt534.2))) else (some ((⟨#[]⟩ : ByteArray), false)))) = some (r1, r2) := h
 clear h
 replace H := Option.bind_eq_some_iff.mp H
 obtain ⟨⟨t526, t529, t532⟩, A20, H⟩ := H
 replace H : (if t532 = true then ((spec_l4Whole.f k t526 t529).bind fun bt534 => (some (bt534.1, bt534.2))) else (some ((⟨#[]⟩ : ByteArray), false))) = some (r1, r2) := H
 have A2 := aM A20
 clear A20
 by_cases c3 : t532 = true
 ·subst c3
  replace H : ((spec_l4Whole.f k t526 t529).bind fun bt534 => (some (bt534.1, bt534.2))) = some (r1, r2) := by rw [if_pos rfl] at H; exact H
  replace H := Option.bind_eq_some_iff.mp H
  obtain ⟨⟨t534, t535⟩, A40, H⟩ := H
  replace H : (some (t534, t535)) = some (r1, r2) := H
  have A4 := aM A40
  clear A40
  simp only [Option.some.injEq, Prod.mk.injEq] at H
  obtain ⟨rfl, rfl⟩ := H
  go_enter Try.func54, Try.ntmps54
  go_wp2_with (first | ((with_reducible refine gate_callee (f := 74) rfl ?_); refine goesL_ (some 8) rfl rfl Try.func74 (by kernel_rfl) rfl #[.string a0] rfl (by (try simp only [List.map_toArray, List.map_cons, List.map_nil]); rfl) ?_; (with_reducible refine (spec_l4Small.calls k a0 t526 t529 true _ A2.out).mono ?_); rintro e w5 ⟨v527, v530, rfl, ho0, ho1, hb⟩; refine ⟨_, rfl, ?_⟩; have HO528 := aM (Kd.V_lower (Kd.V_mono (ok' := fun k_ => True) ho0 (fun k_ hk_ => trivial)) (below_size HB.out)); have HO531 := aM (Kd.V_lower (Kd.V_mono (ok' := fun k_ => True) ho1 (fun k_ hk_ => trivial)) (below_size HB.out)); replace HB := aM (below_step HB.out hb); (try clear hb); (try clear ho0); (try clear ho1)) | ((with_reducible refine gate_dst (N := 4) rfl ?_); refine box_event ?hg (N := 4) ?hd (cs := #[.slice none 0 0, .slice none 0 0]) (t := 94) ?hr ?_; (case hd => rfl); (case hg => rfl); (case hr => first | (go_simp; done)); intro gb533 hg w6 hbox hb; replace HO528 := aM (Kd.V_below (Kd.V_elderB HO528.out gb533 (Nat.le_of_eq hg.symm)) hb); replace HO531 := aM (Kd.V_below (Kd.V_elderB HO531.out gb533 (Nat.le_of_eq hg.symm)) hb); have BK533 := aM hbox; have GW533 := aM ((by rw [hg]; exact (below_size HB.out) : w.heap.size ≤ gb533)); have GE533 := aM ((by rw [hg]; exact (below_size HB.out) : w.heap.size ≤ gb533)); replace HB := aM (below_step HB.out hb); clear hb hbox hg; obtain ⟨Ao7, co7, eo7⟩ := Kd.V_slice HO528.out; subst eo7; have hcz8_0 : w6.cell? ⟨gb533, 0, none⟩ = some (.slice none 0 0) := (blk_cell BK533.out 0).trans rfl; have hcz8_1 : w6.cell? ⟨gb533, 1, none⟩ = some (.slice none 0 0) := (blk_cell BK533.out 1).trans rfl; have hfz8_0 := blk_frozen BK533.out 0; have hfz8_1 := blk_frozen BK533.out 1; obtain ⟨Ao9, co9, eo9⟩ := Kd.V_slice HO531.out; subst eo9) | ((with_reducible refine gate_callee (f := 75) rfl ?_); refine goesL_ (some 14) rfl rfl Try.func75 (by kernel_rfl) rfl #[.agg #[.slice Ao7 t526.length co7, .slice Ao9 t529.length co9]] rfl (by (try simp only [List.map_toArray, List.map_cons, List.map_nil]); rfl) ?_; (with_reducible refine (spec_l4Whole.calls k _ _ t526 _ _ t529 t534 t535 _ ?side1 ?side2 ?side3 ?side4 A4.out).mono ?_); (case side1 => refine (Kd.V_reads' (e := 4) (base := w.heap.size) (ok := fun k_ => (True ∧ k_ ≠ gb533)) (n := t526.length) (c := co7) ?_).2.2; exact (by exact (Kd.V_mono (Kd.V_far (p := ⟨gb533, 1, none⟩) (Kd.V_far (p := ⟨gb533, 0, none⟩) (Kd.V_mono HO528.out (fun k_ hk => (⟨hk, hk.2⟩ : _ ∧ k_ ≠ gb533))) (fun _ hk => hk.2) (.slice Ao7 t526.length co7)) (fun _ hk => hk.2) (.slice Ao9 t529.length co9)) (fun _ h_ => h_.1)))); (case side2 => exact (Kd.V_reads' HO528.out).2.1); (case side3 => refine (Kd.V_reads' (e := 4) (base := w.heap.size) (ok := fun k_ => (True ∧ k_ ≠ gb533)) (n := t529.length) (c := co9) ?_).2.2; exact (by exact (Kd.V_mono (Kd.V_far (p := ⟨gb533, 1, none⟩) (Kd.V_far (p := ⟨gb533, 0, none⟩) (Kd.V_mono HO531.out (fun k_ hk => (⟨hk, hk.2⟩ : _ ∧ k_ ≠ gb533))) (fun _ hk => hk.2) (.slice Ao7 t526.length co7)) (fun _ hk => hk.2) (.slice Ao9 t529.length co9)) (fun _ h_ => h_.1)))); (case side4 => exact (Kd.V_reads' HO531.out).2.1); rintro e w10 ⟨rfl, hb⟩; refine ⟨_, rfl, ?_⟩; replace HO528 := aM (Kd.V_below (by exact (Kd.V_mono (Kd.V_far (p := ⟨gb533, 1, none⟩) (Kd.V_far (p := ⟨gb533, 0, none⟩) (Kd.V_mono HO528.out (fun k_ hk => (⟨hk, hk.2⟩ : _ ∧ k_ ≠ gb533))) (fun _ hk => hk.2) (.slice Ao7 t526.length co7)) (fun _ hk => hk.2) (.slice Ao9 t529.length co9)) (fun _ h_ => h_.1))) hb); replace HO531 := aM (Kd.V_below (by exact (Kd.V_mono (Kd.V_far (p := ⟨gb533, 1, none⟩) (Kd.V_far (p := ⟨gb533, 0, none⟩) (Kd.V_mono HO531.out (fun k_ hk => (⟨hk, hk.2⟩ : _ ∧ k_ ≠ gb533))) (fun _ hk => hk.2) (.slice Ao7 t526.length co7)) (fun _ hk => hk.2) (.slice Ao9 t529.length co9)) (fun _ h_ => h_.1))) hb); replace BK533 := aM (blk_below (g := gb533) (o := .cells #[.slice Ao7 t526.length co7, .slice Ao9 t529.length co9] 94 (0, 0)) (by refine blk_put (cs := #[.slice Ao7 t526.length co7, .slice none 0 0]) ?_ 1 _ rfl; refine blk_put (cs := #[.slice none 0 0, .slice none 0 0]) ?_ 0 _ rfl; exact BK533.out) hb); replace HB := aM (below_step (by repeat (first | (with_reducible first | exact HB.out | refine bS ?_ GE533.out))) hb); (try clear hb)))
  go_ret2
  exact ⟨by first | rfl | (simp [*, errW_none, errW_some] <;> rfl), HB.out⟩
 ·replace c3 := Bool.eq_false_iff.mpr c3
  subst c3
  replace H : (some ((⟨#[]⟩ : ByteArray), false)) = some (r1, r2) := by rw [if_neg (show ¬ (false = true) by decide)] at H; exact H
  simp only [Option.some.injEq, Prod.mk.injEq] at H
  obtain ⟨rfl, rfl⟩ := H
  go_enter Try.func54, Try.ntmps54
  go_wp2_with (first | ((with_reducible refine gate_callee (f := 74) rfl ?_); refine goesL_ (some 8) rfl rfl Try.func74 (by kernel_rfl) rfl #[.string a0] rfl (by (try simp only [List.map_toArray, List.map_cons, List.map_nil]); rfl) ?_; (with_reducible refine (spec_l4Small.calls k a0 t526 t529 false _ A2.out).mono ?_); rintro e w11 ⟨v527, v530, rfl, ho0, ho1, hb⟩; refine ⟨_, rfl, ?_⟩; have HO528 := aM (Kd.V_lower (Kd.V_mono (ok' := fun k_ => True) ho0 (fun k_ hk_ => trivial)) (below_size HB.out)); have HO531 := aM (Kd.V_lower (Kd.V_mono (ok' := fun k_ => True) ho1 (fun k_ hk_ => trivial)) (below_size HB.out)); replace HB := aM (below_step HB.out hb); (try clear hb); (try clear ho0); (try clear ho1)) | ((with_reducible refine gate_dst (N := 4) rfl ?_); refine box_event ?hg (N := 4) ?hd (cs := #[.slice none 0 0, .slice none 0 0]) (t := 94) ?hr ?_; (case hd => rfl); (case hg => rfl); (case hr => first | (go_simp; done)); intro gb533 hg w12 hbox hb; replace HO528 := aM (Kd.V_below (Kd.V_elderB HO528.out gb533 (Nat.le_of_eq hg.symm)) hb); replace HO531 := aM (Kd.V_below (Kd.V_elderB HO531.out gb533 (Nat.le_of_eq hg.symm)) hb); have BK533 := aM hbox; have GW533 := aM ((by rw [hg]; exact (below_size HB.out) : w.heap.size ≤ gb533)); have GE533 := aM ((by rw [hg]; exact (below_size HB.out) : w.heap.size ≤ gb533)); replace HB := aM (below_step HB.out hb); clear hb hbox hg; obtain ⟨Ao13, co13, eo13⟩ := Kd.V_slice HO528.out; subst eo13; have hcz14_0 : w12.cell? ⟨gb533, 0, none⟩ = some (.slice none 0 0) := (blk_cell BK533.out 0).trans rfl; have hcz14_1 : w12.cell? ⟨gb533, 1, none⟩ = some (.slice none 0 0) := (blk_cell BK533.out 1).trans rfl; have hfz14_0 := blk_frozen BK533.out 0; have hfz14_1 := blk_frozen BK533.out 1; obtain ⟨Ao15, co15, eo15⟩ := Kd.V_slice HO531.out; subst eo15))
  go_ret2
  exact ⟨by first | rfl | (simp [*, errW_none, errW_some] <;> rfl), by repeat (first | (with_reducible first | exact HB.out | refine bS ?_ GE533.out))⟩


def spec_l1Divisor.l0 : Nat → Int → Int → Option (Int)
 | 0, _, _ => none
 | k + 1, x0, x1 => if x1 > 0 then (if x1 = 0 then (none) else (spec_l1Divisor.l0 k x1 (Int.tmod x0 x1))) else (some x0)
def spec_l1Divisor.f (k : Nat) (a0 : Int) (a1 : Int) : Option (Int) := spec_l1Divisor.l0 k a0 a1
theorem spec_l1Divisor.mono_l : ∀ k, (∀ y0 y1, LeO (spec_l1Divisor.l0 k y0 y1) (spec_l1Divisor.l0 (k + 1) y0 y1))
 | 0 => fun _ _ r h => by simp [spec_l1Divisor.l0] at h
 | k + 1 => by
  have ih0 := spec_l1Divisor.mono_l k
  ·intro y0 y1
   unfold spec_l1Divisor.l0
   repeat' first | (with_reducible exact ih0 _ _) | (with_reducible exact LeO.refl _) | (with_reducible refine LeO.ite ?_ ?_)
theorem spec_l1Divisor.mono : ∀ a0 a1 k, LeO (spec_l1Divisor.f k a0 a1) (spec_l1Divisor.f (k + 1) a0 a1) := by
 intro a0 a1 k
 have ih0 := spec_l1Divisor.mono_l k
 unfold spec_l1Divisor.f
 repeat' (with_reducible exact ih0 _ _)
set_option maxHeartbeats 8000000 in
set_option maxRecDepth 100000 in
theorem spec_l1Divisor.calls (k : Nat) (a0 : Int) (a1 : Int) (r : Int) (w : World) (h : spec_l1Divisor.f k a0 a1 = some r) :
  Calls Try.prog 105 #[.int .i64 a0, .int .i64 a1] w fun e w' => e = .returned (.int .i64 r) ∧ Drawn0 w w' := by
 have H : (spec_l1Divisor.l0 k a0 a1) = some r := h
 clear h
 have H' := aM H
 clear H
 go_enter Try.func105, Try.ntmps105
 go_wp2
 go_loopg [0, 1] k (fun kq v0 v1 w' => ∃ (x0_1 : Int) (x1_1 : Int), v0 = .int .i64 x0_1 ∧ v1 = .int .i64 x1_1 ∧ Aside0 (spec_l1Divisor.l0 kq x0_1 x1_1 = some r) ∧ Aside0 (kq ≤ k) ∧ Drawn0 w w')
 case atStart => exact ⟨(a0), (a1), (by rfl), (by rfl), H', ⟨Nat.le_refl _⟩, by repeat (exact Drawn0.refl _)⟩
 case round =>
  clear H'
  obtain ⟨x0_1, x1_1, rfl, rfl, HA, HK1, ⟨m1, rfl⟩⟩ := hrel
  cases gk with
  | zero => exact absurd HA.out (by simp [spec_l1Divisor.l0])
  | succ k1 =>
   have H := HA.out
   clear HA
   simp only [spec_l1Divisor.l0] at H
   by_cases c3 : x1_1 > 0
   ·rw [if_pos c3] at H
    have c3b0 : decide (0 < x1_1) = true := decide_eq_true c3
    clear c3
    by_cases c4 : x1_1 = 0
    ·rw [if_pos c4] at H
     exact absurd H (by simp)
    ·rw [if_neg c4] at H
     have c4b0 : (x1_1 == 0) = false := beq_eq_false_iff_ne.mpr c4
     have c4b1 : (x1_1 != 0) = true := bne_iff_ne.mpr c4
     have H' := aM H
     clear H
     go_wp2
     go_roundg k1
     case measure => have := HK1.out; omega
     case rel => exact ⟨(x1_1), (Int.tmod x0_1 x1_1), (by rfl), (by rfl), H', ⟨by have := HK1.out; omega⟩, by repeat (first | exact Drawn0.refl _ | apply Drawn0.step)⟩
   ·rw [if_neg c3] at H
    have c3b0 : decide (0 < x1_1) = false := decide_eq_false c3
    clear c3
    obtain rfl := Option.some.inj H
    go_wp2
    go_ret
    exact ⟨by first | rfl | (simp [*]; done), by repeat (first | exact Drawn0.refl _ | apply Drawn0.step)⟩


def spec_l1Shape.f (k : Nat) (l0_0 : List Bool) (l0_1 : List Bool) (l1_0 : List Bool) (l1_1 : List Bool) : Option (Int × Int) := (spec_l1Divisor.f k (l0_1.length : Int) (l1_1.length : Int)).bind fun t538 => (if t538 = 0 then (none) else (some (mx (l0_0.length : Int) (l1_0.length : Int), wrap64 ((wrap64 ((l0_1.length : Int) / t538)) * (l1_1.length : Int)))))
theorem spec_l1Shape.mono : ∀ a0 a1 a2 a3 k, LeO (spec_l1Shape.f k a0 a1 a2 a3) (spec_l1Shape.f (k + 1) a0 a1 a2 a3) := by
 intro a0 a1 a2 a3 k
 unfold spec_l1Shape.f
 repeat' first
   |(with_reducible exact spec_l1Divisor.mono _ _ _)
   |(with_reducible exact LeO.refl _)
   |(with_reducible exact LeO.none _)
   |(with_reducible refine LeO.ite ?_ ?_)
   |(with_reducible refine LeO.bind ?_ (fun _ => ?_))
   |exact spec_l1Divisor.mono _ _ _
   |exact LeO.none _
   |refine LeO.ite ?_ ?_
   |refine LeO.bind ?_ (fun _ => ?_)
set_option maxHeartbeats 8000000 in
set_option maxRecDepth 100000 in
theorem spec_l1Shape.calls (k : Nat) (A0_0 : Option Addr) (c0_0 : Nat) (l0_0 : List Bool) (A0_1 : Option Addr) (c0_1 : Nat) (l0_1 : List Bool) (A1_0 : Option Addr) (c1_0 : Nat) (l1_0 : List Bool) (A1_1 : Option Addr) (c1_1 : Nat) (l1_1 : List Bool) (r1 : Int) (r2 : Int) (w : World) (hr0_0 : Kd.C Kd.bool w A0_0 l0_0.length l0_0) (hc0_0 : l0_0.length ≤ c0_0) (hr0_1 : Kd.C Kd.bool w A0_1 l0_1.length l0_1) (hc0_1 : l0_1.length ≤ c0_1) (hr1_0 : Kd.C Kd.bool w A1_0 l1_0.length l1_0) (hc1_0 : l1_0.length ≤ c1_0) (hr1_1 : Kd.C Kd.bool w A1_1 l1_1.length l1_1) (hc1_1 : l1_1.length ≤ c1_1) (h : spec_l1Shape.f k l0_0 l0_1 l1_0 l1_1 = some (r1, r2)) :
  Calls Try.prog 96 #[.agg #[.slice A0_0 l0_0.length c0_0, .slice A0_1 l0_1.length c0_1], .agg #[.slice A1_0 l1_0.length c1_0, .slice A1_1 l1_1.length c1_1]] w fun e w' => e = .returned (.tuple #[.int .i64 r1, .int .i64 r2]) ∧ Below w.heap.size w w' := by
 have hu94 := Try.underlying94
 have HR0_0 := aM hr0_0
 have HC0_0 := aM hc0_0
 clear hr0_0 hc0_0
 have HR0_1 := aM hr0_1
 have HC0_1 := aM hc0_1
 clear hr0_1 hc0_1
 have HR1_0 := aM hr1_0
 have HC1_0 := aM hc1_0
 clear hr1_0 hc1_0
 have HR1_1 := aM hr1_1
 have HC1_1 := aM hc1_1
 clear hr1_1 hc1_1
 have HB := aM (Below.refl w.heap.size w)
 have H : ((spec_l1Divisor.f k (l0_1.length : Int) (l1_1.length : Int)).bind fun t538 => (if t538 = 0 then (none) else (some (mx (l0_0.length : Int) (l1_0.length : Int), wrap64 ((wrap64 ((l0_1.length : Int) / t538)) * (l1_1.length : Int)))))) = some (r1, r2) := h
 clear h
 replace H := Option.bind_eq_some_iff.mp H
 obtain ⟨t538, A30, H⟩ := H
 replace H : (if t538 = 0 then (none) else (some (mx (l0_0.length : Int) (l1_0.length : Int), wrap64 ((wrap64 ((l0_1.length : Int) / t538)) * (l1_1.length : Int))))) = some (r1, r2) := H
 have A3 := aM A30
 clear A30
 by_cases c4 : t538 = 0
 ·rw [if_pos c4] at H
  exact absurd H (by simp)
 ·rw [if_neg c4] at H
  have c4b0 : (t538 == 0) = false := beq_eq_false_iff_ne.mpr c4
  have c4b1 : (t538 != 0) = true := bne_iff_ne.mpr c4
  obtain ⟨ji5, hji5⟩ : ∃ j_ : Int, (mx (l0_0.length : Int) (l1_0.length : Int)) = j_ := ⟨_, rfl⟩
  replace H : (some (ji5, wrap64 ((wrap64 ((l0_1.length : Int) / t538)) * (l1_1.length : Int)))) = some (r1, r2) := by first | (rw [hji5] at H; exact H) | (simp only [hji5] at H ⊢; exact H)
  (try rw [hji5] at A3)
  (try (have hji5l : 0 ≤ ji5 := by (rw [← hji5]; unfold mx; (repeat' split) <;> omega)))
  (try (have hji5m : 0 ≤ ji5 := by omega))
  have hji5_ : (if (l0_0.length : Int) < (l1_0.length : Int) then (l1_0.length : Int) else (l0_0.length : Int)) = ji5 := hji5
  have hji5n : (if l0_0.length < l1_0.length then (l1_0.length : Int) else (l0_0.length : Int)) = ji5 := by rw [← hji5_]; split <;> split <;> omega
  simp only [Option.some.injEq, Prod.mk.injEq] at H
  obtain ⟨rfl, rfl⟩ := H
  go_enter Try.func96, Try.ntmps96
  go_wp2_with (first | ((with_reducible refine gate_dst (N := 2) rfl ?_); refine box_event ?hg (N := 2) ?hd (cs := #[.slice A0_0 l0_0.length c0_0, .slice A0_1 l0_1.length c0_1]) (t := 94) ?hr ?_; (case hd => rfl); (case hg => rfl); (case hr => first | (go_simp; done) | (go_simp; rfl)); intro gb536 hg w6 hbox hb; have BK536 := aM hbox; have GW536 := aM ((by rw [hg]; exact (below_size (by repeat (first | (with_reducible first | exact HB.out | apply bA | apply bN | apply b1) | exact HB.out))) : w.heap.size ≤ gb536)); have GE536 := aM ((by rw [hg]; exact (below_size (by repeat (first | (with_reducible first | exact HB.out | apply bA | apply bN | apply b1) | exact HB.out))) : w.heap.size ≤ gb536)); replace HB := aM (below_step (by repeat (first | (with_reducible first | exact HB.out | apply bA | apply bN | apply b1) | exact HB.out)) hb); clear hb hbox hg) | ((with_reducible refine gate_dst (N := 3) rfl ?_); refine box_event ?hg (N := 3) ?hd (cs := #[.slice A1_0 l1_0.length c1_0, .slice A1_1 l1_1.length c1_1]) (t := 94) ?hr ?_; (case hd => rfl); (case hg => rfl); (case hr => first | (go_simp; done) | (go_simp; rfl)); intro gb537 hg w7 hbox hb; have BK537 := aM hbox; have GW537 := aM ((by rw [hg]; exact (below_size (by repeat (first | (with_reducible first | exact HB.out | apply bA | apply bN | apply b1 | refine bS ?_ GE536.out) | exact HB.out))) : w.heap.size ≤ gb537)); have GE537 := aM ((by rw [hg]; exact (below_size (by repeat (first | (with_reducible first | exact HB.out | apply bA | apply bN | apply b1 | refine bS ?_ GE536.out) | exact HB.out))) : w.heap.size ≤ gb537)); replace HB := aM (below_step (by repeat (first | (with_reducible first | exact HB.out | apply bA | apply bN | apply b1 | refine bS ?_ GE536.out) | exact HB.out)) hb); have NB536_537 := aM ((by rw [hg]; exact Nat.ne_of_lt (blk_lt (g := gb536) (o := .cells #[.slice A0_0 l0_0.length c0_0, .slice A0_1 l0_1.length c0_1] 94 (0, 0)) (by (with_reducible repeat (first | refine kN ?_ _ | refine kD ?_ | refine kA ?_ _)); exact BK536.out)) : gb536 ≠ gb537)); have NB537_536 := aM ((by rw [hg]; exact Nat.ne_of_gt (blk_lt (g := gb536) (o := .cells #[.slice A0_0 l0_0.length c0_0, .slice A0_1 l0_1.length c0_1] 94 (0, 0)) (by (with_reducible repeat (first | refine kN ?_ _ | refine kD ?_ | refine kA ?_ _)); exact BK536.out)) : gb537 ≠ gb536)); replace BK536 := aM (blk_below (g := gb536) (o := .cells #[.slice A0_0 l0_0.length c0_0, .slice A0_1 l0_1.length c0_1] 94 (0, 0)) (by (with_reducible repeat (first | refine kN ?_ _ | refine kD ?_ | refine kA ?_ _)); exact BK536.out) hb); clear hb hbox hg; have hnb8 := NB536_537.out; have hnc8 := NB537_536.out; have hcz9_0 : w7.cell? ⟨gb536, 0, none⟩ = some (.slice A0_0 l0_0.length c0_0) := (blk_cell BK536.out 0).trans rfl; have hcz9_1 : w7.cell? ⟨gb536, 1, none⟩ = some (.slice A0_1 l0_1.length c0_1) := (blk_cell BK536.out 1).trans rfl; have hfz9_0 := blk_frozen BK536.out 0; have hfz9_1 := blk_frozen BK536.out 1; have hcz10_0 : w7.cell? ⟨gb537, 0, none⟩ = some (.slice A1_0 l1_0.length c1_0) := (blk_cell BK537.out 0).trans rfl; have hcz10_1 : w7.cell? ⟨gb537, 1, none⟩ = some (.slice A1_1 l1_1.length c1_1) := (blk_cell BK537.out 1).trans rfl; have hfz10_0 := blk_frozen BK537.out 0; have hfz10_1 := blk_frozen BK537.out 1) | (go_at_call 105; (with_reducible refine (spec_l1Divisor.calls k (l0_1.length : Int) (l1_1.length : Int) t538 _ A3.out).mono ?_); rintro e w' ⟨rfl, ⟨nd, rfl⟩⟩; (try first | exact ⟨rfl, _, World.drewN_drewN _ _ _⟩ | exact ⟨rfl, _, Eq.trans (World.drewN_drewN _ _ _) (congrArg (World.drewN _) (Nat.add_assoc _ _ _))⟩)))
  repeat (go_quiet (first | ((with_reducible refine gate_dst (N := 2) rfl ?_); refine box_event ?hg (N := 2) ?hd (cs := #[.slice A0_0 l0_0.length c0_0, .slice A0_1 l0_1.length c0_1]) (t := 94) ?hr ?_; (case hd => rfl); (case hg => rfl); (case hr => first | (go_simp; done) | (go_simp; rfl)); intro gb536 hg w6 hbox hb; have BK536 := aM hbox; have GW536 := aM ((by rw [hg]; exact (below_size (by repeat (first | (with_reducible first | exact HB.out | apply bA | apply bN | apply b1) | exact HB.out))) : w.heap.size ≤ gb536)); have GE536 := aM ((by rw [hg]; exact (below_size (by repeat (first | (with_reducible first | exact HB.out | apply bA | apply bN | apply b1) | exact HB.out))) : w.heap.size ≤ gb536)); replace HB := aM (below_step (by repeat (first | (with_reducible first | exact HB.out | apply bA | apply bN | apply b1) | exact HB.out)) hb); clear hb hbox hg) | ((with_reducible refine gate_dst (N := 3) rfl ?_); refine box_event ?hg (N := 3) ?hd (cs := #[.slice A1_0 l1_0.length c1_0, .slice A1_1 l1_1.length c1_1]) (t := 94) ?hr ?_; (case hd => rfl); (case hg => rfl); (case hr => first | (go_simp; done) | (go_simp; rfl)); intro gb537 hg w7 hbox hb; have BK537 := aM hbox; have GW537 := aM ((by rw [hg]; exact (below_size (by repeat (first | (with_reducible first | exact HB.out | apply bA | apply bN | apply b1 | refine bS ?_ GE536.out) | exact HB.out))) : w.heap.size ≤ gb537)); have GE537 := aM ((by rw [hg]; exact (below_size (by repeat (first | (with_reducible first | exact HB.out | apply bA | apply bN | apply b1 | refine bS ?_ GE536.out) | exact HB.out))) : w.heap.size ≤ gb537)); replace HB := aM (below_step (by repeat (first | (with_reducible first | exact HB.out | apply bA | apply bN | apply b1 | refine bS ?_ GE536.out) | exact HB.out)) hb); have NB536_537 := aM ((by rw [hg]; exact Nat.ne_of_lt (blk_lt (g := gb536) (o := .cells #[.slice A0_0 l0_0.length c0_0, .slice A0_1 l0_1.length c0_1] 94 (0, 0)) (by (with_reducible repeat (first | refine kN ?_ _ | refine kD ?_ | refine kA ?_ _)); exact BK536.out)) : gb536 ≠ gb537)); have NB537_536 := aM ((by rw [hg]; exact Nat.ne_of_gt (blk_lt (g := gb536) (o := .cells #[.slice A0_0 l0_0.length c0_0, .slice A0_1 l0_1.length c0_1] 94 (0, 0)) (by (with_reducible repeat (first | refine kN ?_ _ | refine kD ?_ | refine kA ?_ _)); exact BK536.out)) : gb537 ≠ gb536)); replace BK536 := aM (blk_below (g := gb536) (o := .cells #[.slice A0_0 l0_0.length c0_0, .slice A0_1 l0_1.length c0_1] 94 (0, 0)) (by (with_reducible repeat (first | refine kN ?_ _ | refine kD ?_ | refine kA ?_ _)); exact BK536.out) hb); clear hb hbox hg; have hnb8 := NB536_537.out; have hnc8 := NB537_536.out; have hcz9_0 : w7.cell? ⟨gb536, 0, none⟩ = some (.slice A0_0 l0_0.length c0_0) := (blk_cell BK536.out 0).trans rfl; have hcz9_1 : w7.cell? ⟨gb536, 1, none⟩ = some (.slice A0_1 l0_1.length c0_1) := (blk_cell BK536.out 1).trans rfl; have hfz9_0 := blk_frozen BK536.out 0; have hfz9_1 := blk_frozen BK536.out 1; have hcz10_0 : w7.cell? ⟨gb537, 0, none⟩ = some (.slice A1_0 l1_0.length c1_0) := (blk_cell BK537.out 0).trans rfl; have hcz10_1 : w7.cell? ⟨gb537, 1, none⟩ = some (.slice A1_1 l1_1.length c1_1) := (blk_cell BK537.out 1).trans rfl; have hfz10_0 := blk_frozen BK537.out 0; have hfz10_1 := blk_frozen BK537.out 1) | (go_at_call 105; (with_reducible refine (spec_l1Divisor.calls k (l0_1.length : Int) (l1_1.length : Int) t538 _ A3.out).mono ?_); rintro e w' ⟨rfl, ⟨nd, rfl⟩⟩; (try first | exact ⟨rfl, _, World.drewN_drewN _ _ _⟩ | exact ⟨rfl, _, Eq.trans (World.drewN_drewN _ _ _) (congrArg (World.drewN _) (Nat.add_assoc _ _ _))⟩))); try go_wp2_with (first | ((with_reducible refine gate_dst (N := 2) rfl ?_); refine box_event ?hg (N := 2) ?hd (cs := #[.slice A0_0 l0_0.length c0_0, .slice A0_1 l0_1.length c0_1]) (t := 94) ?hr ?_; (case hd => rfl); (case hg => rfl); (case hr => first | (go_simp; done) | (go_simp; rfl)); intro gb536 hg w6 hbox hb; have BK536 := aM hbox; have GW536 := aM ((by rw [hg]; exact (below_size (by repeat (first | (with_reducible first | exact HB.out | apply bA | apply bN | apply b1) | exact HB.out))) : w.heap.size ≤ gb536)); have GE536 := aM ((by rw [hg]; exact (below_size (by repeat (first | (with_reducible first | exact HB.out | apply bA | apply bN | apply b1) | exact HB.out))) : w.heap.size ≤ gb536)); replace HB := aM (below_step (by repeat (first | (with_reducible first | exact HB.out | apply bA | apply bN | apply b1) | exact HB.out)) hb); clear hb hbox hg) | ((with_reducible refine gate_dst (N := 3) rfl ?_); refine box_event ?hg (N := 3) ?hd (cs := #[.slice A1_0 l1_0.length c1_0, .slice A1_1 l1_1.length c1_1]) (t := 94) ?hr ?_; (case hd => rfl); (case hg => rfl); (case hr => first | (go_simp; done) | (go_simp; rfl)); intro gb537 hg w7 hbox hb; have BK537 := aM hbox; have GW537 := aM ((by rw [hg]; exact (below_size (by repeat (first | (with_reducible first | exact HB.out | apply bA | apply bN | apply b1 | refine bS ?_ GE536.out) | exact HB.out))) : w.heap.size ≤ gb537)); have GE537 := aM ((by rw [hg]; exact (below_size (by repeat (first | (with_reducible first | exact HB.out | apply bA | apply bN | apply b1 | refine bS ?_ GE536.out) | exact HB.out))) : w.heap.size ≤ gb537)); replace HB := aM (below_step (by repeat (first | (with_reducible first | exact HB.out | apply bA | apply bN | apply b1 | refine bS ?_ GE536.out) | exact HB.out)) hb); have NB536_537 := aM ((by rw [hg]; exact Nat.ne_of_lt (blk_lt (g := gb536) (o := .cells #[.slice A0_0 l0_0.length c0_0, .slice A0_1 l0_1.length c0_1] 94 (0, 0)) (by (with_reducible repeat (first | refine kN ?_ _ | refine kD ?_ | refine kA ?_ _)); exact BK536.out)) : gb536 ≠ gb537)); have NB537_536 := aM ((by rw [hg]; exact Nat.ne_of_gt (blk_lt (g := gb536) (o := .cells #[.slice A0_0 l0_0.length c0_0, .slice A0_1 l0_1.length c0_1] 94 (0, 0)) (by (with_reducible repeat (first | refine kN ?_ _ | refine kD ?_ | refine kA ?_ _)); exact BK536.out)) : gb537 ≠ gb536)); replace BK536 := aM (blk_below (g := gb536) (o := .cells #[.slice A0_0 l0_0.length c0_0, .slice A0_1 l0_1.length c0_1] 94 (0, 0)) (by (with_reducible repeat (first | refine kN ?_ _ | refine kD ?_ | refine kA ?_ _)); exact BK536.out) hb); clear hb hbox hg; have hnb8 := NB536_537.out; have hnc8 := NB537_536.out; have hcz9_0 : w7.cell? ⟨gb536, 0, none⟩ = some (.slice A0_0 l0_0.length c0_0) := (blk_cell BK536.out 0).trans rfl; have hcz9_1 : w7.cell? ⟨gb536, 1, none⟩ = some (.slice A0_1 l0_1.length c0_1) := (blk_cell BK536.out 1).trans rfl; have hfz9_0 := blk_frozen BK536.out 0; have hfz9_1 := blk_frozen BK536.out 1; have hcz10_0 : w7.cell? ⟨gb537, 0, none⟩ = some (.slice A1_0 l1_0.length c1_0) := (blk_cell BK537.out 0).trans rfl; have hcz10_1 : w7.cell? ⟨gb537, 1, none⟩ = some (.slice A1_1 l1_1.length c1_1) := (blk_cell BK537.out 1).trans rfl; have hfz10_0 := blk_frozen BK537.out 0; have hfz10_1 := blk_frozen BK537.out 1) | (go_at_call 105; (with_reducible refine (spec_l1Divisor.calls k (l0_1.length : Int) (l1_1.length : Int) t538 _ A3.out).mono ?_); rintro e w' ⟨rfl, ⟨nd, rfl⟩⟩; (try first | exact ⟨rfl, _, World.drewN_drewN _ _ _⟩ | exact ⟨rfl, _, Eq.trans (World.drewN_drewN _ _ _) (congrArg (World.drewN _) (Nat.add_assoc _ _ _))⟩))))
  go_ret2
  exact ⟨by first | rfl | (simp [errW_none, errW_some] <;> rfl) | (simp [errW_none, errW_some]; exact ⟨rfl, rfl⟩) | (simp [errW_none, errW_some]; exact ⟨rfl, rfl, rfl⟩) | (simp only [← hji5]; first | rfl | (simp [errW_none, errW_some] <;> rfl) | (simp [errW_none, errW_some]; exact ⟨rfl, rfl⟩) | (simp [errW_none, errW_some]; exact ⟨rfl, rfl, rfl⟩)) | (simp [*, errW_none, errW_some] <;> rfl), by repeat (first | (with_reducible first | exact HB.out | apply bA | apply bN | apply b1 | refine bS ?_ GE536.out | refine bS ?_ GE537.out) | exact HB.out)⟩


mutual
def spec_l4Sum.l0 : Nat → Bool → Int → Int → List Bool → Int → List Bool → List Bool → List Bool → List Bool → Option (ByteArray × Bool)
 | 0, _, _, _, _, _, _, _, _, _ => none
 | k + 1, x2, x8, x9, x10, x11, x540000, x540001, x541000, x541001 => if x11 < (wrap64 (x8 + x9)) then (spec_l4Sum.l1 k x2 x8 x9 x10 x11 false 0 x540000 x540001 x541000 x541001) else ((spec_l2Fill.f k x10 x8).bind fun bt546 => (some (bt546.1, bt546.2)))
def spec_l4Sum.l1 : Nat → Bool → Int → Int → List Bool → Int → Bool → Int → List Bool → List Bool → List Bool → List Bool → Option (ByteArray × Bool)
 | 0, _, _, _, _, _, _, _, _, _, _, _ => none
 | k + 1, x2, x8, x9, x10, x11, x12, x13, x540000, x540001, x541000, x541001 => if x13 ≤ x11 then (if x12 = true then (spec_l4Sum.l1 k x2 x8 x9 x10 x11 true (wrap64 (x13 + 1)) x540000 x540001 x541000 x541001) else ((spec_l1Has.f x540000 x540001 x13).bind fun t548 => (if t548 = true then ((spec_l1Has.f x541000 x541001 (wrap64 (x11 - x13))).bind fun t549 => (if t549 = true then (if x2 = true then (spec_l4Sum.l1 k x2 x8 x9 x10 x11 (x13 != (wrap64 (x11 - x13))) (wrap64 (x13 + 1)) x540000 x540001 x541000 x541001) else (spec_l4Sum.l1 k x2 x8 x9 x10 x11 true (wrap64 (x13 + 1)) x540000 x540001 x541000 x541001)) else (spec_l4Sum.l1 k x2 x8 x9 x10 x11 false (wrap64 (x13 + 1)) x540000 x540001 x541000 x541001))) else (spec_l4Sum.l1 k x2 x8 x9 x10 x11 false (wrap64 (x13 + 1)) x540000 x540001 x541000 x541001)))) else (if x10.length < 140737488355328 then (spec_l4Sum.l0 k x2 x8 x9 (x10 ++ [x12]) (wrap64 (x11 + 1)) x540000 x540001 x541000 x541001) else (none))
end
def spec_l4Sum.f (k : Nat) (l0_0 : List Bool) (l0_1 : List Bool) (l1_0 : List Bool) (l1_1 : List Bool) (a2 : Bool) : Option (ByteArray × Bool) := (spec_l1Shape.f k l0_0 l0_1 l1_0 l1_1).bind fun bt541 => (spec_l4Sum.l0 k a2 (wrap64 ((wrap64 ((wrap64 (2 * bt541.1)) + (wrap64 (3 * bt541.2)))) + 2)) bt541.2 (([] : List Bool)) 0 l0_0 l0_1 l1_0 l1_1)
theorem spec_l4Sum.mono_l : ∀ k, (∀ y0 y1 y2 y3 y4 y5 y6 y7 y8, LeO (spec_l4Sum.l0 k y0 y1 y2 y3 y4 y5 y6 y7 y8) (spec_l4Sum.l0 (k + 1) y0 y1 y2 y3 y4 y5 y6 y7 y8)) ∧ (∀ y0 y1 y2 y3 y4 y5 y6 y7 y8 y9 y10, LeO (spec_l4Sum.l1 k y0 y1 y2 y3 y4 y5 y6 y7 y8 y9 y10) (spec_l4Sum.l1 (k + 1) y0 y1 y2 y3 y4 y5 y6 y7 y8 y9 y10))
 | 0 => ⟨fun _ _ _ _ _ _ _ _ _ r h => by simp [spec_l4Sum.l0] at h, fun _ _ _ _ _ _ _ _ _ _ _ r h => by simp [spec_l4Sum.l1] at h⟩
 | k + 1 => by
  obtain ⟨ih0, ih1⟩ := spec_l4Sum.mono_l k
  refine ⟨?_, ?_⟩
  ·intro y0 y1 y2 y3 y4 y5 y6 y7 y8
   unfold spec_l4Sum.l0
   repeat' first | (with_reducible exact ih1 _ _ _ _ _ _ _ _ _ _ _) | (with_reducible exact spec_l2Fill.mono _ _ _) | (with_reducible exact LeO.refl _) | (with_reducible refine LeO.ite ?_ ?_) | (with_reducible refine LeO.bind ?_ (fun _ => ?_))
  ·intro y0 y1 y2 y3 y4 y5 y6 y7 y8 y9 y10
   unfold spec_l4Sum.l1
   repeat' first | (with_reducible exact ih0 _ _ _ _ _ _ _ _ _) | (with_reducible exact ih1 _ _ _ _ _ _ _ _ _ _ _) | (with_reducible exact LeO.refl _) | (with_reducible refine LeO.ite ?_ ?_) | (with_reducible refine LeO.bind ?_ (fun _ => ?_))
theorem spec_l4Sum.mono : ∀ a0 a1 a2 a3 a4 k, LeO (spec_l4Sum.f k a0 a1 a2 a3 a4) (spec_l4Sum.f (k + 1) a0 a1 a2 a3 a4) := by
 intro a0 a1 a2 a3 a4 k
 obtain ⟨ih0, ih1⟩ := spec_l4Sum.mono_l k
 unfold spec_l4Sum.f
 repeat' first | (with_reducible exact ih0 _ _ _ _ _ _ _ _ _) | (with_reducible exact spec_l1Shape.mono _ _ _ _ _) | (with_reducible refine LeO.bind ?_ (fun _ => ?_))
set_option maxHeartbeats 8000000 in
set_option maxRecDepth 100000 in
theorem spec_l4Sum.calls (k : Nat) (A0_0 : Option Addr) (c0_0 : Nat) (l0_0 : List Bool) (A0_1 : Option Addr) (c0_1 : Nat) (l0_1 : List Bool) (A1_0 : Option Addr) (c1_0 : Nat) (l1_0 : List Bool) (A1_1 : Option Addr) (c1_1 : Nat) (l1_1 : List Bool) (a2 : Bool) (r1 : ByteArray) (r2 : Bool) (w : World) (hr0_0 : Kd.C Kd.bool w A0_0 l0_0.length l0_0) (hc0_0 : l0_0.length ≤ c0_0) (hr0_1 : Kd.C Kd.bool w A0_1 l0_1.length l0_1) (hc0_1 : l0_1.length ≤ c0_1) (hr1_0 : Kd.C Kd.bool w A1_0 l1_0.length l1_0) (hc1_0 : l1_0.length ≤ c1_0) (hr1_1 : Kd.C Kd.bool w A1_1 l1_1.length l1_1) (hc1_1 : l1_1.length ≤ c1_1) (h : spec_l4Sum.f k l0_0 l0_1 l1_0 l1_1 a2 = some (r1, r2)) :
  Calls Try.prog 77 #[.agg #[.slice A0_0 l0_0.length c0_0, .slice A0_1 l0_1.length c0_1], .agg #[.slice A1_0 l1_0.length c1_0, .slice A1_1 l1_1.length c1_1], .bool a2] w fun e w' => e = .returned (.tuple #[.string r1, .bool r2]) ∧ Below w.heap.size w w' := by
 have hu94 := Try.underlying94
 have HR0_0 := aM hr0_0
 have HC0_0 := aM hc0_0
 clear hr0_0 hc0_0
 have HR0_1 := aM hr0_1
 have HC0_1 := aM hc0_1
 clear hr0_1 hc0_1
 have HR1_0 := aM hr1_0
 have HC1_0 := aM hc1_0
 clear hr1_0 hc1_0
 have HR1_1 := aM hr1_1
 have HC1_1 := aM hc1_1
 clear hr1_1 hc1_1
 have HB := aM (Below.refl w.heap.size w)
 have H : ((spec_l1Shape.f k l0_0 l0_1 l1_0 l1_1).bind fun bt541 => (spec_l4Sum.l0 k a2 (wrap64 ((wrap64 ((wrap64 (2 * bt541.1)) + (wrap64 (3 * bt541.2)))) + 2)) bt541.2 (([] : List Bool)) 0 l0_0 l0_1 l1_0 l1_1)) = some (r1, r2) := h
 clear h
 replace H := Option.bind_eq_some_iff.mp H
 obtain ⟨⟨t541, t542⟩, A40, H⟩ := H
 replace H : (spec_l4Sum.l0 k a2 (wrap64 ((wrap64 ((wrap64 (2 * t541)) + (wrap64 (3 * t542)))) + 2)) t542 (([] : List Bool)) 0 l0_0 l0_1 l1_0 l1_1) = some (r1, r2) := H
 have A4 := aM A40
 clear A40
 obtain ⟨y543, hy543⟩ : ∃ y_ : List Bool, y_ = (([] : List Bool)) := ⟨_, rfl⟩
 replace H : (spec_l4Sum.l0 k a2 (wrap64 ((wrap64 ((wrap64 (2 * t541)) + (wrap64 (3 * t542)))) + 2)) t542 y543 0 l0_0 l0_1 l1_0 l1_1) = some (r1, r2) := by first | (rw [hy543]; with_reducible exact H)
 have Ny543 := aM hy543
 clear hy543
 have H' := aM H
 clear H
 go_enter Try.func77, Try.ntmps77
 go_wp2_with (first | ((with_reducible refine gate_dst (N := 3) rfl ?_); refine box_event ?hg (N := 3) ?hd (cs := #[.slice A0_0 l0_0.length c0_0, .slice A0_1 l0_1.length c0_1]) (t := 94) ?hr ?_; (case hd => rfl); (case hg => rfl); (case hr => first | (go_simp; done)); intro gb539 hg w5 hbox hb; have BK539 := aM hbox; have GW539 := aM ((by rw [hg]; exact (below_size HB.out) : w.heap.size ≤ gb539)); have GE539 := aM ((by rw [hg]; exact (below_size HB.out) : w.heap.size ≤ gb539)); replace HB := aM (below_step HB.out hb); clear hb hbox hg) | ((with_reducible refine gate_dst (N := 4) rfl ?_); refine box_event ?hg (N := 4) ?hd (cs := #[.slice A1_0 l1_0.length c1_0, .slice A1_1 l1_1.length c1_1]) (t := 94) ?hr ?_; (case hd => rfl); (case hg => rfl); (case hr => first | (go_simp; done)); intro gb540 hg w6 hbox hb; have BK540 := aM hbox; have GW540 := aM ((by rw [hg]; exact (below_size HB.out) : w.heap.size ≤ gb540)); have GE540 := aM ((by rw [hg]; exact (below_size HB.out) : w.heap.size ≤ gb540)); replace HB := aM (below_step HB.out hb); have NB539_540 := aM ((by rw [hg]; exact Nat.ne_of_lt (blk_lt (g := gb539) (o := .cells #[.slice A0_0 l0_0.length c0_0, .slice A0_1 l0_1.length c0_1] 94 (0, 0)) BK539.out) : gb539 ≠ gb540)); have NB540_539 := aM ((by rw [hg]; exact Nat.ne_of_gt (blk_lt (g := gb539) (o := .cells #[.slice A0_0 l0_0.length c0_0, .slice A0_1 l0_1.length c0_1] 94 (0, 0)) BK539.out) : gb540 ≠ gb539)); replace BK539 := aM (blk_below (g := gb539) (o := .cells #[.slice A0_0 l0_0.length c0_0, .slice A0_1 l0_1.length c0_1] 94 (0, 0)) BK539.out hb); clear hb hbox hg; have hnb7 := NB539_540.out; have hnc7 := NB540_539.out; have hcz8_0 : w6.cell? ⟨gb539, 0, none⟩ = some (.slice A0_0 l0_0.length c0_0) := (blk_cell BK539.out 0).trans rfl; have hcz8_1 : w6.cell? ⟨gb539, 1, none⟩ = some (.slice A0_1 l0_1.length c0_1) := (blk_cell BK539.out 1).trans rfl; have hfz8_0 := blk_frozen BK539.out 0; have hfz8_1 := blk_frozen BK539.out 1; have hcz9_0 : w6.cell? ⟨gb540, 0, none⟩ = some (.slice A1_0 l1_0.length c1_0) := (blk_cell BK540.out 0).trans rfl; have hcz9_1 : w6.cell? ⟨gb540, 1, none⟩ = some (.slice A1_1 l1_1.length c1_1) := (blk_cell BK540.out 1).trans rfl; have hfz9_0 := blk_frozen BK540.out 0; have hfz9_1 := blk_frozen BK540.out 1) | ((with_reducible refine gate_callee (f := 96) rfl ?_); refine goesL_ (some 17) rfl rfl Try.func96 (by kernel_rfl) rfl #[.agg #[.slice A0_0 l0_0.length c0_0, .slice A0_1 l0_1.length c0_1], .agg #[.slice A1_0 l1_0.length c1_0, .slice A1_1 l1_1.length c1_1]] rfl (by (try simp only [List.map_toArray, List.map_cons, List.map_nil]); rfl) ?_; (with_reducible refine (spec_l1Shape.calls k _ _ l0_0 _ _ l0_1 _ _ l1_0 _ _ l1_1 t541 t542 _ ?side1 ?side2 ?side3 ?side4 ?side5 ?side6 ?side7 ?side8 A4.out).mono ?_); (case side1 => repeat (exact (Kd.C_below HR0_0.out HB.out))); (case side2 => exact HC0_0.out); (case side3 => repeat (exact (Kd.C_below HR0_1.out HB.out))); (case side4 => exact HC0_1.out); (case side5 => repeat (exact (Kd.C_below HR1_0.out HB.out))); (case side6 => exact HC1_0.out); (case side7 => repeat (exact (Kd.C_below HR1_1.out HB.out))); (case side8 => exact HC1_1.out); rintro e w10 ⟨rfl, hb⟩; refine ⟨_, rfl, ?_⟩; replace BK539 := aM (blk_below (g := gb539) (o := .cells #[.slice A0_0 l0_0.length c0_0, .slice A0_1 l0_1.length c0_1] 94 (0, 0)) BK539.out hb); replace BK540 := aM (blk_below (g := gb540) (o := .cells #[.slice A1_0 l1_0.length c1_0, .slice A1_1 l1_1.length c1_1] 94 (0, 0)) BK540.out hb); replace HB := aM (below_step HB.out hb); (try clear hb)) | ((with_reducible refine gate_dst (N := 26) rfl ?_); refine Kd.R_lit Kd.bool _ 4 ?hg (N := 26) ?hd (xs := ([] : List Bool)) (inner := []) (ok := fun _ => True) (okp := fun _ => True) ?hr ?hp (fun _ hk => hk) trivial (Below.refl _ _) (Nat.le_refl _) (by simp) ?_; (case hd => rfl); (case hg => rfl); (case hr => first | (go_simp; done)); (case hp => exact (Reps.none _ _)); intro v544 w11 ho12 hb hg_ hnew_; clear hg_ hnew_; (rw [← Ny543.out] at ho12); have HO545 := aM (Kd.R_lower ho12 (below_size HB.out)); replace BK539 := aM (blk_below (g := gb539) (o := .cells #[.slice A0_0 l0_0.length c0_0, .slice A0_1 l0_1.length c0_1] 94 (0, 0)) BK539.out hb); replace BK540 := aM (blk_below (g := gb540) (o := .cells #[.slice A1_0 l1_0.length c1_0, .slice A1_1 l1_1.length c1_1] 94 (0, 0)) BK540.out hb); replace HB := aM (below_step HB.out hb); clear hb ho12))
 go_loopg [10, 11] k (fun kq v10 v11 w' => ∃ (x10_1 : List Bool) (x11_1 : Int), v11 = .int .i64 x11_1 ∧ Aside0 (spec_l4Sum.l0 kq a2 (wrap64 ((wrap64 ((wrap64 (2 * t541)) + (wrap64 (3 * t542)))) + 2)) t542 x10_1 x11_1 l0_0 l0_1 l1_0 l1_1 = some (r1, r2)) ∧ Aside0 (kq ≤ k) ∧ Aside0 (Kd.R Kd.bool 4 w' w.heap.size (fun _ => True) v10 x10_1) ∧ Aside0 (w'.heap[gb539]? = some (.cells #[(.slice A0_0 l0_0.length c0_0), (.slice A0_1 l0_1.length c0_1)] 94 (0, 0))) ∧ Aside0 (w'.heap[gb540]? = some (.cells #[(.slice A1_0 l1_0.length c1_0), (.slice A1_1 l1_1.length c1_1)] 94 (0, 0))) ∧ Aside0 (Below w.heap.size w w'))
 case atStart => exact ⟨(y543), (0), (by rfl), H', ⟨Nat.le_refl _⟩, ⟨by exact HO545.out⟩, ⟨by exact BK539.out⟩, ⟨by exact BK540.out⟩, ⟨HB.out⟩⟩
 case round =>
  clear H'
  try clear hcz8_0
  try clear hcz8_1
  try clear hcz9_0
  try clear hcz9_1
  try clear hfz8_0
  try clear hfz8_1
  try clear hfz9_0
  try clear hfz9_1
  obtain ⟨x10_1, x11_1, rfl, HA, HK1, HO_10, BK539, BK540, HB⟩ := hrel
  cases gk with
  | zero => exact absurd HA.out (by simp [spec_l4Sum.l0])
  | succ k1 =>
   have H := HA.out
   clear HA
   simp only [spec_l4Sum.l0] at H
   by_cases c13 : x11_1 < (wrap64 ((wrap64 ((wrap64 ((wrap64 (2 * t541)) + (wrap64 (3 * t542)))) + 2)) + t542))
   ·rw [if_pos c13] at H
    have c13b0 : decide (x11_1 < (wrap64 ((wrap64 ((wrap64 ((wrap64 (2 * t541)) + (wrap64 (3 * t542)))) + 2)) + t542))) = true := decide_eq_true c13
    clear c13
    have H' := aM H
    clear H
    go_wp2
    go_loopg [12, 13] k1 (fun kq v12 v13 w' => ∃ (x12_2 : Bool) (x13_2 : Int), v12 = .bool x12_2 ∧ v13 = .int .i64 x13_2 ∧ Aside0 (spec_l4Sum.l1 kq a2 (wrap64 ((wrap64 ((wrap64 (2 * t541)) + (wrap64 (3 * t542)))) + 2)) t542 x10_1 x11_1 x12_2 x13_2 l0_0 l0_1 l1_0 l1_1 = some (r1, r2)) ∧ Aside0 (kq ≤ k1) ∧ Aside0 (Kd.R Kd.bool 4 w' w.heap.size (fun _ => True) u10 x10_1) ∧ Aside0 (w'.heap[gb539]? = some (.cells #[(.slice A0_0 l0_0.length c0_0), (.slice A0_1 l0_1.length c0_1)] 94 (0, 0))) ∧ Aside0 (w'.heap[gb540]? = some (.cells #[(.slice A1_0 l1_0.length c1_0), (.slice A1_1 l1_1.length c1_1)] 94 (0, 0))) ∧ Aside0 (Below w.heap.size w w'))
    case atStart => exact ⟨(false), (0), (by rfl), (by rfl), H', ⟨Nat.le_refl _⟩, ⟨by exact HO_10.out⟩, ⟨by exact BK539.out⟩, ⟨by exact BK540.out⟩, ⟨HB.out⟩⟩
    case round =>
     clear H'
     try clear c13b0
     obtain ⟨x12_2, x13_2, rfl, rfl, HA, HK2, HO_10, BK539, BK540, HB⟩ := hrel
     cases gk with
     | zero => exact absurd HA.out (by simp [spec_l4Sum.l1])
     | succ k2 =>
      have H := HA.out
      clear HA
      simp only [spec_l4Sum.l1] at H
      by_cases c14 : x13_2 ≤ x11_1
      ·rw [if_pos c14] at H
       have c14b0 : decide (x13_2 ≤ x11_1) = true := decide_eq_true c14
       clear c14
       by_cases c15 : x12_2 = true
       ·subst c15
        replace H : (spec_l4Sum.l1 k2 a2 (wrap64 ((wrap64 ((wrap64 (2 * t541)) + (wrap64 (3 * t542)))) + 2)) t542 x10_1 x11_1 true (wrap64 (x13_2 + 1)) l0_0 l0_1 l1_0 l1_1) = some (r1, r2) := by rw [if_pos rfl] at H; exact H
        have H' := aM H
        clear H
        go_wp2
        go_roundg k2
        case measure => have := HK1.out; have := HK2.out; omega
        case rel => exact ⟨(true), (wrap64 (x13_2 + 1)), (by rfl), (by rfl), H', ⟨by have := HK1.out; have := HK2.out; omega⟩, ⟨by exact HO_10.out⟩, ⟨by exact BK539.out⟩, ⟨by exact BK540.out⟩, ⟨HB.out⟩⟩
       ·replace c15 := Bool.eq_false_iff.mpr c15
        subst c15
        replace H : ((spec_l1Has.f l0_0 l0_1 x13_2).bind fun t548 => (if t548 = true then ((spec_l1Has.f l1_0 l1_1 (wrap64 (x11_1 - x13_2))).bind fun t549 => (if t549 = true then (if a2 = true then (spec_l4Sum.l1 k2 a2 (wrap64 ((wrap64 ((wrap64 (2 * t541)) + (wrap64 (3 * t542)))) + 2)) t542 x10_1 x11_1 (x13_2 != (wrap64 (x11_1 - x13_2))) (wrap64 (x13_2 + 1)) l0_0 l0_1 l1_0 l1_1) else (spec_l4Sum.l1 k2 a2 (wrap64 ((wrap64 ((wrap64 (2 * t541)) + (wrap64 (3 * t542)))) + 2)) t542 x10_1 x11_1 true (wrap64 (x13_2 + 1)) l0_0 l0_1 l1_0 l1_1)) else (spec_l4Sum.l1 k2 a2 (wrap64 ((wrap64 ((wrap64 (2 * t541)) + (wrap64 (3 * t542)))) + 2)) t542 x10_1 x11_1 false (wrap64 (x13_2 + 1)) l0_0 l0_1 l1_0 l1_1))) else (spec_l4Sum.l1 k2 a2 (wrap64 ((wrap64 ((wrap64 (2 * t541)) + (wrap64 (3 * t542)))) + 2)) t542 x10_1 x11_1 false (wrap64 (x13_2 + 1)) l0_0 l0_1 l1_0 l1_1))) = some (r1, r2) := by rw [if_neg (show ¬ (false = true) by decide)] at H; exact H
        replace H := Option.bind_eq_some_iff.mp H
        obtain ⟨t548, A160, H⟩ := H
        replace H : (if t548 = true then ((spec_l1Has.f l1_0 l1_1 (wrap64 (x11_1 - x13_2))).bind fun t549 => (if t549 = true then (if a2 = true then (spec_l4Sum.l1 k2 a2 (wrap64 ((wrap64 ((wrap64 (2 * t541)) + (wrap64 (3 * t542)))) + 2)) t542 x10_1 x11_1 (x13_2 != (wrap64 (x11_1 - x13_2))) (wrap64 (x13_2 + 1)) l0_0 l0_1 l1_0 l1_1) else (spec_l4Sum.l1 k2 a2 (wrap64 ((wrap64 ((wrap64 (2 * t541)) + (wrap64 (3 * t542)))) + 2)) t542 x10_1 x11_1 true (wrap64 (x13_2 + 1)) l0_0 l0_1 l1_0 l1_1)) else (spec_l4Sum.l1 k2 a2 (wrap64 ((wrap64 ((wrap64 (2 * t541)) + (wrap64 (3 * t542)))) + 2)) t542 x10_1 x11_1 false (wrap64 (x13_2 + 1)) l0_0 l0_1 l1_0 l1_1))) else (spec_l4Sum.l1 k2 a2 (wrap64 ((wrap64 ((wrap64 (2 * t541)) + (wrap64 (3 * t542)))) + 2)) t542 x10_1 x11_1 false (wrap64 (x13_2 + 1)) l0_0 l0_1 l1_0 l1_1)) = some (r1, r2) := H
        have A16 := aM A160
        clear A160
        by_cases c17 : t548 = true
        ·subst c17
         replace H : ((spec_l1Has.f l1_0 l1_1 (wrap64 (x11_1 - x13_2))).bind fun t549 => (if t549 = true then (if a2 = true then (spec_l4Sum.l1 k2 a2 (wrap64 ((wrap64 ((wrap64 (2 * t541)) + (wrap64 (3 * t542)))) + 2)) t542 x10_1 x11_1 (x13_2 != (wrap64 (x11_1 - x13_2))) (wrap64 (x13_2 + 1)) l0_0 l0_1 l1_0 l1_1) else (spec_l4Sum.l1 k2 a2 (wrap64 ((wrap64 ((wrap64 (2 * t541)) + (wrap64 (3 * t542)))) + 2)) t542 x10_1 x11_1 true (wrap64 (x13_2 + 1)) l0_0 l0_1 l1_0 l1_1)) else (spec_l4Sum.l1 k2 a2 (wrap64 ((wrap64 ((wrap64 (2 * t541)) + (wrap64 (3 * t542)))) + 2)) t542 x10_1 x11_1 false (wrap64 (x13_2 + 1)) l0_0 l0_1 l1_0 l1_1))) = some (r1, r2) := by rw [if_pos rfl] at H; exact H
         replace H := Option.bind_eq_some_iff.mp H
         obtain ⟨t549, A180, H⟩ := H
         replace H : (if t549 = true then (if a2 = true then (spec_l4Sum.l1 k2 a2 (wrap64 ((wrap64 ((wrap64 (2 * t541)) + (wrap64 (3 * t542)))) + 2)) t542 x10_1 x11_1 (x13_2 != (wrap64 (x11_1 - x13_2))) (wrap64 (x13_2 + 1)) l0_0 l0_1 l1_0 l1_1) else (spec_l4Sum.l1 k2 a2 (wrap64 ((wrap64 ((wrap64 (2 * t541)) + (wrap64 (3 * t542)))) + 2)) t542 x10_1 x11_1 true (wrap64 (x13_2 + 1)) l0_0 l0_1 l1_0 l1_1)) else (spec_l4Sum.l1 k2 a2 (wrap64 ((wrap64 ((wrap64 (2 * t541)) + (wrap64 (3 * t542)))) + 2)) t542 x10_1 x11_1 false (wrap64 (x13_2 + 1)) l0_0 l0_1 l1_0 l1_1)) = some (r1, r2) := H
         have A18 := aM A180
         clear A180
         by_cases c19 : t549 = true
         ·subst c19
          replace H : (if a2 = true then (spec_l4Sum.l1 k2 a2 (wrap64 ((wrap64 ((wrap64 (2 * t541)) + (wrap64 (3 * t542)))) + 2)) t542 x10_1 x11_1 (x13_2 != (wrap64 (x11_1 - x13_2))) (wrap64 (x13_2 + 1)) l0_0 l0_1 l1_0 l1_1) else (spec_l4Sum.l1 k2 a2 (wrap64 ((wrap64 ((wrap64 (2 * t541)) + (wrap64 (3 * t542)))) + 2)) t542 x10_1 x11_1 true (wrap64 (x13_2 + 1)) l0_0 l0_1 l1_0 l1_1)) = some (r1, r2) := by rw [if_pos rfl] at H; exact H
          by_cases c20 : a2 = true
          all_goals
           first
           |replace c20 := Bool.eq_false_iff.mpr c20
           |skip
           subst c20
           first
           |have H1 : (spec_l4Sum.l1 k2 true (wrap64 ((wrap64 ((wrap64 (2 * t541)) + (wrap64 (3 * t542)))) + 2)) t542 x10_1 x11_1 (x13_2 != (wrap64 (x11_1 - x13_2))) (wrap64 (x13_2 + 1)) l0_0 l0_1 l1_0 l1_1) = some (r1, r2) := by rw [if_pos rfl] at H; exact H
           |have H1 : (spec_l4Sum.l1 k2 false (wrap64 ((wrap64 ((wrap64 (2 * t541)) + (wrap64 (3 * t542)))) + 2)) t542 x10_1 x11_1 true (wrap64 (x13_2 + 1)) l0_0 l0_1 l1_0 l1_1) = some (r1, r2) := by rw [if_neg (show ¬ (false = true) by decide)] at H; exact H
           clear H
           have H := H1
           clear H1
           have H' := aM H
           clear H
           have hnb21 := NB539_540.out
           have hnc21 := NB540_539.out
           have hcz22_0 : wr.cell? ⟨gb539, 0, none⟩ = some (.slice A0_0 l0_0.length c0_0) := (blk_cell BK539.out 0).trans rfl
           have hcz22_1 : wr.cell? ⟨gb539, 1, none⟩ = some (.slice A0_1 l0_1.length c0_1) := (blk_cell BK539.out 1).trans rfl
           have hfz22_0 := blk_frozen BK539.out 0
           have hfz22_1 := blk_frozen BK539.out 1
           go_wp2_with (first | (go_at_call 97; (with_reducible refine (spec_l1Has.calls _ _ l0_0 _ _ l0_1 x13_2 true _ ?side1 ?side2 ?side3 ?side4 A16.out).mono ?_); (case side1 => repeat (exact (Kd.C_below HR0_0.out HB.out))); (case side2 => exact HC0_0.out); (case side3 => repeat (exact (Kd.C_below HR0_1.out HB.out))); (case side4 => exact HC0_1.out); rintro e w23 ⟨rfl, hb⟩; replace HO_10 := aM (Kd.R_below HO_10.out hb); replace BK539 := aM (blk_below (g := gb539) (o := .cells #[.slice A0_0 l0_0.length c0_0, .slice A0_1 l0_1.length c0_1] 94 (0, 0)) BK539.out hb); replace BK540 := aM (blk_below (g := gb540) (o := .cells #[.slice A1_0 l1_0.length c1_0, .slice A1_1 l1_1.length c1_1] 94 (0, 0)) BK540.out hb); replace HB := aM (below_step HB.out hb); (try clear hb); have hcz24_0 : w23.cell? ⟨gb540, 0, none⟩ = some (.slice A1_0 l1_0.length c1_0) := (blk_cell BK540.out 0).trans rfl; have hcz24_1 : w23.cell? ⟨gb540, 1, none⟩ = some (.slice A1_1 l1_1.length c1_1) := (blk_cell BK540.out 1).trans rfl; have hfz24_0 := blk_frozen BK540.out 0; have hfz24_1 := blk_frozen BK540.out 1) | (go_at_call 97; (with_reducible refine (spec_l1Has.calls _ _ l1_0 _ _ l1_1 (wrap64 (x11_1 - x13_2)) true _ ?side1 ?side2 ?side3 ?side4 A18.out).mono ?_); (case side1 => repeat (exact (Kd.C_below HR1_0.out HB.out))); (case side2 => exact HC1_0.out); (case side3 => repeat (exact (Kd.C_below HR1_1.out HB.out))); (case side4 => exact HC1_1.out); rintro e w25 ⟨rfl, hb⟩; replace HO_10 := aM (Kd.R_below HO_10.out hb); replace BK539 := aM (blk_below (g := gb539) (o := .cells #[.slice A0_0 l0_0.length c0_0, .slice A0_1 l0_1.length c0_1] 94 (0, 0)) BK539.out hb); replace BK540 := aM (blk_below (g := gb540) (o := .cells #[.slice A1_0 l1_0.length c1_0, .slice A1_1 l1_1.length c1_1] 94 (0, 0)) BK540.out hb); replace HB := aM (below_step HB.out hb); (try clear hb)))
           go_roundg k2
           case measure => have := HK1.out; have := HK2.out; omega
           first
           |case rel => exact ⟨((x13_2 != (wrap64 (x11_1 - x13_2)))), (wrap64 (x13_2 + 1)), (by rfl), (by rfl), H', ⟨by have := HK1.out; have := HK2.out; omega⟩, ⟨by exact HO_10.out⟩, ⟨by exact BK539.out⟩, ⟨by exact BK540.out⟩, ⟨HB.out⟩⟩
           |case rel => exact ⟨(true), (wrap64 (x13_2 + 1)), (by rfl), (by rfl), H', ⟨by have := HK1.out; have := HK2.out; omega⟩, ⟨by exact HO_10.out⟩, ⟨by exact BK539.out⟩, ⟨by exact BK540.out⟩, ⟨HB.out⟩⟩
         ·replace c19 := Bool.eq_false_iff.mpr c19
          subst c19
          replace H : (spec_l4Sum.l1 k2 a2 (wrap64 ((wrap64 ((wrap64 (2 * t541)) + (wrap64 (3 * t542)))) + 2)) t542 x10_1 x11_1 false (wrap64 (x13_2 + 1)) l0_0 l0_1 l1_0 l1_1) = some (r1, r2) := by rw [if_neg (show ¬ (false = true) by decide)] at H; exact H
          have H' := aM H
          clear H
          have hnb31 := NB539_540.out
          have hnc31 := NB540_539.out
          have hcz32_0 : wr.cell? ⟨gb539, 0, none⟩ = some (.slice A0_0 l0_0.length c0_0) := (blk_cell BK539.out 0).trans rfl
          have hcz32_1 : wr.cell? ⟨gb539, 1, none⟩ = some (.slice A0_1 l0_1.length c0_1) := (blk_cell BK539.out 1).trans rfl
          have hfz32_0 := blk_frozen BK539.out 0
          have hfz32_1 := blk_frozen BK539.out 1
          go_wp2_with (first | (go_at_call 97; (with_reducible refine (spec_l1Has.calls _ _ l0_0 _ _ l0_1 x13_2 true _ ?side1 ?side2 ?side3 ?side4 A16.out).mono ?_); (case side1 => repeat (exact (Kd.C_below HR0_0.out HB.out))); (case side2 => exact HC0_0.out); (case side3 => repeat (exact (Kd.C_below HR0_1.out HB.out))); (case side4 => exact HC0_1.out); rintro e w33 ⟨rfl, hb⟩; replace HO_10 := aM (Kd.R_below HO_10.out hb); replace BK539 := aM (blk_below (g := gb539) (o := .cells #[.slice A0_0 l0_0.length c0_0, .slice A0_1 l0_1.length c0_1] 94 (0, 0)) BK539.out hb); replace BK540 := aM (blk_below (g := gb540) (o := .cells #[.slice A1_0 l1_0.length c1_0, .slice A1_1 l1_1.length c1_1] 94 (0, 0)) BK540.out hb); replace HB := aM (below_step HB.out hb); (try clear hb); have hcz34_0 : w33.cell? ⟨gb540, 0, none⟩ = some (.slice A1_0 l1_0.length c1_0) := (blk_cell BK540.out 0).trans rfl; have hcz34_1 : w33.cell? ⟨gb540, 1, none⟩ = some (.slice A1_1 l1_1.length c1_1) := (blk_cell BK540.out 1).trans rfl; have hfz34_0 := blk_frozen BK540.out 0; have hfz34_1 := blk_frozen BK540.out 1) | (go_at_call 97; (with_reducible refine (spec_l1Has.calls _ _ l1_0 _ _ l1_1 (wrap64 (x11_1 - x13_2)) false _ ?side1 ?side2 ?side3 ?side4 A18.out).mono ?_); (case side1 => repeat (exact (Kd.C_below HR1_0.out HB.out))); (case side2 => exact HC1_0.out); (case side3 => repeat (exact (Kd.C_below HR1_1.out HB.out))); (case side4 => exact HC1_1.out); rintro e w35 ⟨rfl, hb⟩; replace HO_10 := aM (Kd.R_below HO_10.out hb); replace BK539 := aM (blk_below (g := gb539) (o := .cells #[.slice A0_0 l0_0.length c0_0, .slice A0_1 l0_1.length c0_1] 94 (0, 0)) BK539.out hb); replace BK540 := aM (blk_below (g := gb540) (o := .cells #[.slice A1_0 l1_0.length c1_0, .slice A1_1 l1_1.length c1_1] 94 (0, 0)) BK540.out hb); replace HB := aM (below_step HB.out hb); (try clear hb)))
          go_roundg k2
          case measure => have := HK1.out; have := HK2.out; omega
          case rel => exact ⟨(false), (wrap64 (x13_2 + 1)), (by rfl), (by rfl), H', ⟨by have := HK1.out; have := HK2.out; omega⟩, ⟨by exact HO_10.out⟩, ⟨by exact BK539.out⟩, ⟨by exact BK540.out⟩, ⟨HB.out⟩⟩
        ·replace c17 := Bool.eq_false_iff.mpr c17
         subst c17
         replace H : (spec_l4Sum.l1 k2 a2 (wrap64 ((wrap64 ((wrap64 (2 * t541)) + (wrap64 (3 * t542)))) + 2)) t542 x10_1 x11_1 false (wrap64 (x13_2 + 1)) l0_0 l0_1 l1_0 l1_1) = some (r1, r2) := by rw [if_neg (show ¬ (false = true) by decide)] at H; exact H
         have H' := aM H
         clear H
         have hnb36 := NB539_540.out
         have hnc36 := NB540_539.out
         have hcz37_0 : wr.cell? ⟨gb539, 0, none⟩ = some (.slice A0_0 l0_0.length c0_0) := (blk_cell BK539.out 0).trans rfl
         have hcz37_1 : wr.cell? ⟨gb539, 1, none⟩ = some (.slice A0_1 l0_1.length c0_1) := (blk_cell BK539.out 1).trans rfl
         have hfz37_0 := blk_frozen BK539.out 0
         have hfz37_1 := blk_frozen BK539.out 1
         go_wp2_with (first | (go_at_call 97; (with_reducible refine (spec_l1Has.calls _ _ l0_0 _ _ l0_1 x13_2 false _ ?side1 ?side2 ?side3 ?side4 A16.out).mono ?_); (case side1 => repeat (exact (Kd.C_below HR0_0.out HB.out))); (case side2 => exact HC0_0.out); (case side3 => repeat (exact (Kd.C_below HR0_1.out HB.out))); (case side4 => exact HC0_1.out); rintro e w38 ⟨rfl, hb⟩; replace HO_10 := aM (Kd.R_below HO_10.out hb); replace BK539 := aM (blk_below (g := gb539) (o := .cells #[.slice A0_0 l0_0.length c0_0, .slice A0_1 l0_1.length c0_1] 94 (0, 0)) BK539.out hb); replace BK540 := aM (blk_below (g := gb540) (o := .cells #[.slice A1_0 l1_0.length c1_0, .slice A1_1 l1_1.length c1_1] 94 (0, 0)) BK540.out hb); replace HB := aM (below_step HB.out hb); (try clear hb)))
         go_roundg k2
         case measure => have := HK1.out; have := HK2.out; omega
         case rel => exact ⟨(false), (wrap64 (x13_2 + 1)), (by rfl), (by rfl), H', ⟨by have := HK1.out; have := HK2.out; omega⟩, ⟨by exact HO_10.out⟩, ⟨by exact BK539.out⟩, ⟨by exact BK540.out⟩, ⟨HB.out⟩⟩
      ·rw [if_neg c14] at H
       have c14b0 : decide (x13_2 ≤ x11_1) = false := decide_eq_false c14
       clear c14
       by_cases c39 : x10_1.length < 140737488355328
       ·rw [if_pos c39] at H
        have LMc39 := aM c39
        clear c39
        obtain ⟨y550, hy550⟩ : ∃ y_ : List Bool, y_ = (x10_1 ++ [x12_2]) := ⟨_, rfl⟩
        replace H : (spec_l4Sum.l0 k2 a2 (wrap64 ((wrap64 ((wrap64 (2 * t541)) + (wrap64 (3 * t542)))) + 2)) t542 y550 (wrap64 (x11_1 + 1)) l0_0 l0_1 l1_0 l1_1) = some (r1, r2) := by first | (rw [hy550]; with_reducible exact H)
        have Ny550 := aM hy550
        clear hy550
        have H' := aM H
        clear H
        go_wp2_with (first | ((with_reducible refine gate_builtin (b := .append) (xs := #[.tmp 63, .tmp 65]) rfl ?_); at_builtin; refine Kd.R_append Kd.bool (w0 := w) w.heap.size rfl (.tmp 63) (.tmp 65) 52 4 (.bool false) 1 rfl Try.underlying52 info4 rfl (by decide) (by omega) u10 x10_1 x12_2 [.bool x12_2] (fun _ => True) (fun _ => False) rfl rfl ?aP (fun _ hk => hk.elim) ?aF ?aO ?aB ?aS ?aL ?_; (case aP => exact rfl); (case aB => exact HB.out); (case aF => exact (fun _ _ => trivial)); (case aO => exact HO_10.out); (case aS => exact (below_size HB.out)); (case aL => have := LMc39.out; omega); intro v551 w40 ho hb hg hat; rw [← Ny550.out] at ho; replace BK539 := aM (blk_grown (g := gb539) (o := .cells #[.slice A0_0 l0_0.length c0_0, .slice A0_1 l0_1.length c0_1] 94 (0, 0)) BK539.out hg (Kd.R_ne HO_10.out BK539.out (by decide))); replace BK540 := aM (blk_grown (g := gb540) (o := .cells #[.slice A1_0 l1_0.length c1_0, .slice A1_1 l1_1.length c1_1] 94 (0, 0)) BK540.out hg (Kd.R_ne HO_10.out BK540.out (by decide))); replace HB := aM hb; have HO552 := aM ho; clear HO_10; clear ho hb hg hat))
        go_roundg k2
        case measure => have := HK1.out; have := HK2.out; omega
        case rel => exact ⟨(y550), (wrap64 (x11_1 + 1)), (by rfl), H', ⟨by have := HK1.out; have := HK2.out; omega⟩, ⟨by exact HO552.out⟩, ⟨by exact BK539.out⟩, ⟨by exact BK540.out⟩, ⟨HB.out⟩⟩
       ·rw [if_neg c39] at H
        exact absurd H (by simp)
   ·rw [if_neg c13] at H
    have c13b0 : decide (x11_1 < (wrap64 ((wrap64 ((wrap64 ((wrap64 (2 * t541)) + (wrap64 (3 * t542)))) + 2)) + t542))) = false := decide_eq_false c13
    clear c13
    replace H := Option.bind_eq_some_iff.mp H
    obtain ⟨⟨t546, t547⟩, A410, H⟩ := H
    replace H : (some (t546, t547)) = some (r1, r2) := H
    have A41 := aM A410
    clear A410
    simp only [Option.some.injEq, Prod.mk.injEq] at H
    obtain ⟨rfl, rfl⟩ := H
    obtain ⟨Ao42, co42, eo42⟩ := Kd.R_slice HO_10.out
    subst eo42
    go_wp2_with (first | ((with_reducible refine gate_callee (f := 94) rfl ?_); refine goesL_ (some 69) rfl rfl Try.func94 (by kernel_rfl) rfl #[.slice Ao42 x10_1.length co42, .int .i64 (wrap64 ((wrap64 ((wrap64 (2 * t541)) + (wrap64 (3 * t542)))) + 2))] rfl (by (try simp only [List.map_toArray, List.map_cons, List.map_nil]); rfl) ?_; (with_reducible refine (spec_l2Fill.calls k1 _ _ x10_1 (wrap64 ((wrap64 ((wrap64 (2 * t541)) + (wrap64 (3 * t542)))) + 2)) t546 t547 _ ?side1 ?side2 A41.out).mono ?_); (case side1 => repeat (exact (Kd.R_reads' HO_10.out).2.2)); (case side2 => exact (Kd.R_reads' HO_10.out).2.1); rintro e w43 ⟨rfl, hb⟩; refine ⟨_, rfl, ?_⟩; replace HO_10 := aM (Kd.R_below HO_10.out hb); replace BK539 := aM (blk_below (g := gb539) (o := .cells #[.slice A0_0 l0_0.length c0_0, .slice A0_1 l0_1.length c0_1] 94 (0, 0)) BK539.out hb); replace BK540 := aM (blk_below (g := gb540) (o := .cells #[.slice A1_0 l1_0.length c1_0, .slice A1_1 l1_1.length c1_1] 94 (0, 0)) BK540.out hb); replace HB := aM (below_step HB.out hb); (try clear hb)))
    go_ret2
    exact ⟨by first | rfl | (simp [*, errW_none, errW_some] <;> rfl), HB.out⟩


def spec_SumOf.f (k : Nat) (a0 : ByteArray) (a1 : ByteArray) : Option (ByteArray × Bool) := (spec_l4Small.f k a0).bind fun bt553 => ((spec_l4Small.f k a1).bind fun bt561 => (if bt553.2.2 = true then (if bt561.2.2 = true then ((spec_l4Sum.f k bt553.1 bt553.2.1 bt561.1 bt561.2.1 false).bind fun bt569 => (some (bt569.1, bt569.2))) else (some ((⟨#[]⟩ : ByteArray), false))) else (some ((⟨#[]⟩ : ByteArray), false))))
theorem spec_SumOf.mono : ∀ a0 a1 k, LeO (spec_SumOf.f k a0 a1) (spec_SumOf.f (k + 1) a0 a1) := by
 intro a0 a1 k
 unfold spec_SumOf.f
 repeat' first | (with_reducible exact spec_l4Small.mono _ _) | (with_reducible exact spec_l4Sum.mono _ _ _ _ _ _) | (with_reducible exact LeO.refl _) | (with_reducible refine LeO.ite ?_ ?_) | (with_reducible refine LeO.bind ?_ (fun _ => ?_))
set_option maxHeartbeats 8000000 in
set_option maxRecDepth 100000 in
theorem spec_SumOf.calls (k : Nat) (a0 : ByteArray) (a1 : ByteArray) (r1 : ByteArray) (r2 : Bool) (w : World) (h : spec_SumOf.f k a0 a1 = some (r1, r2)) :
  Calls Try.prog 57 #[.string a0, .string a1] w fun e w' => e = .returned (.tuple #[.string r1, .bool r2]) ∧ Below w.heap.size w w' := by
 have hu94 := Try.underlying94
 have HB := aM (Below.refl w.heap.size w)
 have H : ((spec_l4Small.f k a0).bind fun bt553 => ((spec_l4Small.f k a1).bind fun bt561 => (if bt553.2.2 = true then (if bt561.2.2 = true then ((spec_l4Sum.f k bt553.1 bt553.2.1 bt561.1 bt561.2.1 false).bind fun bt569 => (some (bt569.1, bt569.2))) else (some ((⟨#[]⟩ : ByteArray), false))) else (some ((⟨#[]⟩ : ByteArray), false))))) = some (r1, r2) := h
 clear h
 replace H := Option.bind_eq_some_iff.mp H
 obtain ⟨⟨t553, t556, t559⟩, A30, H⟩ := H
 replace H : ((spec_l4Small.f k a1).bind fun bt561 => (if t559 = true then (if bt561.2.2 = true then ((spec_l4Sum.f k t553 t556 bt561.1 bt561.2.1 false).bind fun bt569 => (some (bt569.1, bt569.2))) else (some ((⟨#[]⟩ : ByteArray), false))) else (some ((⟨#[]⟩ : ByteArray), false)))) = some (r1, r2) := H
 have A3 := aM A30
 clear A30
 replace H := Option.bind_eq_some_iff.mp H
 obtain ⟨⟨t561, t564, t567⟩, A40, H⟩ := H
 replace H : (if t559 = true then (if t567 = true then ((spec_l4Sum.f k t553 t556 t561 t564 false).bind fun bt569 => (some (bt569.1, bt569.2))) else (some ((⟨#[]⟩ : ByteArray), false))) else (some ((⟨#[]⟩ : ByteArray), false))) = some (r1, r2) := H
 have A4 := aM A40
 clear A40
 by_cases c5 : t559 = true
 ·subst c5
  replace H : (if t567 = true then ((spec_l4Sum.f k t553 t556 t561 t564 false).bind fun bt569 => (some (bt569.1, bt569.2))) else (some ((⟨#[]⟩ : ByteArray), false))) = some (r1, r2) := by rw [if_pos rfl] at H; exact H
  by_cases c6 : t567 = true
  ·subst c6
   replace H : ((spec_l4Sum.f k t553 t556 t561 t564 false).bind fun bt569 => (some (bt569.1, bt569.2))) = some (r1, r2) := by rw [if_pos rfl] at H; exact H
   replace H := Option.bind_eq_some_iff.mp H
   obtain ⟨⟨t569, t570⟩, A70, H⟩ := H
   replace H : (some (t569, t570)) = some (r1, r2) := H
   have A7 := aM A70
   clear A70
   simp only [Option.some.injEq, Prod.mk.injEq] at H
   obtain ⟨rfl, rfl⟩ := H
   go_enter Try.func57, Try.ntmps57
   go_wp2_with (first | ((with_reducible refine gate_callee (f := 74) rfl ?_); refine goesL_ (some 12) rfl rfl Try.func74 (by kernel_rfl) rfl #[.string a0] rfl (by (try simp only [List.map_toArray, List.map_cons, List.map_nil]); rfl) ?_; (with_reducible refine (spec_l4Small.calls k a0 t553 t556 true _ A3.out).mono ?_); rintro e w8 ⟨v554, v557, rfl, ho0, ho1, hb⟩; refine ⟨_, rfl, ?_⟩; have HO555 := aM (Kd.V_lower (Kd.V_mono (ok' := fun k_ => True) ho0 (fun k_ hk_ => trivial)) (below_size HB.out)); have HO558 := aM (Kd.V_lower (Kd.V_mono (ok' := fun k_ => True) ho1 (fun k_ hk_ => trivial)) (below_size HB.out)); replace HB := aM (below_step HB.out hb); (try clear hb); (try clear ho0); (try clear ho1)) | ((with_reducible refine gate_dst (N := 6) rfl ?_); refine box_event ?hg (N := 6) ?hd (cs := #[.slice none 0 0, .slice none 0 0]) (t := 94) ?hr ?_; (case hd => rfl); (case hg => rfl); (case hr => first | (go_simp; done)); intro gb560 hg w9 hbox hb; replace HO555 := aM (Kd.V_below (Kd.V_elderB HO555.out gb560 (Nat.le_of_eq hg.symm)) hb); replace HO558 := aM (Kd.V_below (Kd.V_elderB HO558.out gb560 (Nat.le_of_eq hg.symm)) hb); have BK560 := aM hbox; have GW560 := aM ((by rw [hg]; exact (below_size HB.out) : w.heap.size ≤ gb560)); have GE560 := aM ((by rw [hg]; exact (below_size HB.out) : w.heap.size ≤ gb560)); replace HB := aM (below_step HB.out hb); clear hb hbox hg; obtain ⟨Ao10, co10, eo10⟩ := Kd.V_slice HO555.out; subst eo10; have hcz11_0 : w9.cell? ⟨gb560, 0, none⟩ = some (.slice none 0 0) := (blk_cell BK560.out 0).trans rfl; have hcz11_1 : w9.cell? ⟨gb560, 1, none⟩ = some (.slice none 0 0) := (blk_cell BK560.out 1).trans rfl; have hfz11_0 := blk_frozen BK560.out 0; have hfz11_1 := blk_frozen BK560.out 1; obtain ⟨Ao12, co12, eo12⟩ := Kd.V_slice HO558.out; subst eo12) | ((with_reducible refine gate_callee (f := 74) rfl ?_); refine goesL_ (some 17) rfl rfl Try.func74 (by kernel_rfl) rfl #[.string a1] rfl (by (try simp only [List.map_toArray, List.map_cons, List.map_nil]); rfl) ?_; (with_reducible refine (spec_l4Small.calls k a1 t561 t564 true _ A4.out).mono ?_); rintro e w13 ⟨v562, v565, rfl, ho0, ho1, hb⟩; refine ⟨_, rfl, ?_⟩; replace HO555 := aM (Kd.V_below (by exact (Kd.V_mono (Kd.V_far (p := ⟨gb560, 1, none⟩) (Kd.V_far (p := ⟨gb560, 0, none⟩) (Kd.V_mono HO555.out (fun k_ hk => (⟨hk, hk.2⟩ : _ ∧ k_ ≠ gb560))) (fun _ hk => hk.2) (.slice Ao10 t553.length co10)) (fun _ hk => hk.2) (.slice Ao12 t556.length co12)) (fun _ h_ => h_.1))) hb); replace HO558 := aM (Kd.V_below (by exact (Kd.V_mono (Kd.V_far (p := ⟨gb560, 1, none⟩) (Kd.V_far (p := ⟨gb560, 0, none⟩) (Kd.V_mono HO558.out (fun k_ hk => (⟨hk, hk.2⟩ : _ ∧ k_ ≠ gb560))) (fun _ hk => hk.2) (.slice Ao10 t553.length co10)) (fun _ hk => hk.2) (.slice Ao12 t556.length co12)) (fun _ h_ => h_.1))) hb); have HO563 := aM (Kd.V_lower (Kd.V_mono (ok' := fun k_ => k_ ≠ gb560) ho0 (fun k_ hk_ => (Kd.freshB (g := gb560) (o := .cells #[.slice Ao10 t553.length co10, .slice Ao12 t556.length co12] 94 (0, 0)) (by refine blk_put (cs := #[.slice Ao10 t553.length co10, .slice none 0 0]) ?_ 1 _ rfl; refine blk_put (cs := #[.slice none 0 0, .slice none 0 0]) ?_ 0 _ rfl; exact BK560.out) k_ hk_))) (below_size (by repeat (first | (with_reducible first | exact HB.out | refine bS ?_ GE560.out))))); have HO566 := aM (Kd.V_lower (Kd.V_mono (ok' := fun k_ => k_ ≠ gb560) ho1 (fun k_ hk_ => (Kd.freshB (g := gb560) (o := .cells #[.slice Ao10 t553.length co10, .slice Ao12 t556.length co12] 94 (0, 0)) (by refine blk_put (cs := #[.slice Ao10 t553.length co10, .slice none 0 0]) ?_ 1 _ rfl; refine blk_put (cs := #[.slice none 0 0, .slice none 0 0]) ?_ 0 _ rfl; exact BK560.out) k_ hk_))) (below_size (by repeat (first | (with_reducible first | exact HB.out | refine bS ?_ GE560.out))))); replace BK560 := aM (blk_below (g := gb560) (o := .cells #[.slice Ao10 t553.length co10, .slice Ao12 t556.length co12] 94 (0, 0)) (by refine blk_put (cs := #[.slice Ao10 t553.length co10, .slice none 0 0]) ?_ 1 _ rfl; refine blk_put (cs := #[.slice none 0 0, .slice none 0 0]) ?_ 0 _ rfl; exact BK560.out) hb); replace HB := aM (below_step (by repeat (first | (with_reducible first | exact HB.out | refine bS ?_ GE560.out))) hb); (try clear hb); (try clear ho0); (try clear ho1)) | ((with_reducible refine gate_dst (N := 8) rfl ?_); refine box_event ?hg (N := 8) ?hd (cs := #[.slice none 0 0, .slice none 0 0]) (t := 94) ?hr ?_; (case hd => rfl); (case hg => rfl); (case hr => first | (go_simp; done)); intro gb568 hg w14 hbox hb; replace HO555 := aM (Kd.V_below (Kd.V_elderB HO555.out gb568 (Nat.le_of_eq hg.symm)) hb); replace HO558 := aM (Kd.V_below (Kd.V_elderB HO558.out gb568 (Nat.le_of_eq hg.symm)) hb); replace HO563 := aM (Kd.V_below (Kd.V_elderB HO563.out gb568 (Nat.le_of_eq hg.symm)) hb); replace HO566 := aM (Kd.V_below (Kd.V_elderB HO566.out gb568 (Nat.le_of_eq hg.symm)) hb); have BK568 := aM hbox; have GW568 := aM ((by rw [hg]; exact (below_size HB.out) : w.heap.size ≤ gb568)); have GE568 := aM ((by rw [hg]; exact (below_size HB.out) : w.heap.size ≤ gb568)); replace HB := aM (below_step HB.out hb); have NB560_568 := aM ((by rw [hg]; exact Nat.ne_of_lt (blk_lt (g := gb560) (o := .cells #[.slice Ao10 t553.length co10, .slice Ao12 t556.length co12] 94 (0, 0)) BK560.out) : gb560 ≠ gb568)); have NB568_560 := aM ((by rw [hg]; exact Nat.ne_of_gt (blk_lt (g := gb560) (o := .cells #[.slice Ao10 t553.length co10, .slice Ao12 t556.length co12] 94 (0, 0)) BK560.out) : gb568 ≠ gb560)); replace BK560 := aM (blk_below (g := gb560) (o := .cells #[.slice Ao10 t553.length co10, .slice Ao12 t556.length co12] 94 (0, 0)) BK560.out hb); clear hb hbox hg; obtain ⟨Ao15, co15, eo15⟩ := Kd.V_slice HO563.out; subst eo15; have hnb16 := NB568_560.out; have hnc16 := NB560_568.out; have hcz17_0 : w14.cell? ⟨gb568, 0, none⟩ = some (.slice none 0 0) := (blk_cell BK568.out 0).trans rfl; have hcz17_1 : w14.cell? ⟨gb568, 1, none⟩ = some (.slice none 0 0) := (blk_cell BK568.out 1).trans rfl; have hfz17_0 := blk_frozen BK568.out 0; have hfz17_1 := blk_frozen BK568.out 1; obtain ⟨Ao18, co18, eo18⟩ := Kd.V_slice HO566.out; subst eo18; have hcz19_0 : w14.cell? ⟨gb560, 0, none⟩ = some (.slice Ao10 t553.length co10) := (blk_cell BK560.out 0).trans rfl; have hcz19_1 : w14.cell? ⟨gb560, 1, none⟩ = some (.slice Ao12 t556.length co12) := (blk_cell BK560.out 1).trans rfl; have hfz19_0 := blk_frozen BK560.out 0; have hfz19_1 := blk_frozen BK560.out 1) | ((with_reducible refine gate_callee (f := 77) rfl ?_); refine goesL_ (some 28) rfl rfl Try.func77 (by kernel_rfl) rfl #[.agg #[.slice Ao10 t553.length co10, .slice Ao12 t556.length co12], .agg #[.slice Ao15 t561.length co15, .slice Ao18 t564.length co18], .bool false] rfl (by (try simp only [List.map_toArray, List.map_cons, List.map_nil]); rfl) ?_; (with_reducible refine (spec_l4Sum.calls k _ _ t553 _ _ t556 _ _ t561 _ _ t564 false t569 t570 _ ?side1 ?side2 ?side3 ?side4 ?side5 ?side6 ?side7 ?side8 A7.out).mono ?_); (case side1 => refine (Kd.V_reads' (e := 4) (base := w.heap.size) (ok := fun k_ => ((True ∧ k_ ≠ gb560) ∧ k_ ≠ gb568)) (n := t553.length) (c := co10) ?_).2.2; exact (by exact (Kd.V_mono (Kd.V_far (p := ⟨gb568, 1, none⟩) (Kd.V_far (p := ⟨gb568, 0, none⟩) (Kd.V_mono HO555.out (fun k_ hk => (⟨hk, hk.2⟩ : _ ∧ k_ ≠ gb568))) (fun _ hk => hk.2) (.slice Ao15 t561.length co15)) (fun _ hk => hk.2) (.slice Ao18 t564.length co18)) (fun _ h_ => h_.1)))); (case side2 => exact (Kd.V_reads' HO555.out).2.1); (case side3 => refine (Kd.V_reads' (e := 4) (base := w.heap.size) (ok := fun k_ => ((True ∧ k_ ≠ gb560) ∧ k_ ≠ gb568)) (n := t556.length) (c := co12) ?_).2.2; exact (by exact (Kd.V_mono (Kd.V_far (p := ⟨gb568, 1, none⟩) (Kd.V_far (p := ⟨gb568, 0, none⟩) (Kd.V_mono HO558.out (fun k_ hk => (⟨hk, hk.2⟩ : _ ∧ k_ ≠ gb568))) (fun _ hk => hk.2) (.slice Ao15 t561.length co15)) (fun _ hk => hk.2) (.slice Ao18 t564.length co18)) (fun _ h_ => h_.1)))); (case side4 => exact (Kd.V_reads' HO558.out).2.1); (case side5 => refine (Kd.V_reads' (e := 4) (base := w.heap.size) (ok := fun k_ => (k_ ≠ gb560 ∧ k_ ≠ gb568)) (n := t561.length) (c := co15) ?_).2.2; exact (by exact (Kd.V_mono (Kd.V_far (p := ⟨gb568, 1, none⟩) (Kd.V_far (p := ⟨gb568, 0, none⟩) (Kd.V_mono HO563.out (fun k_ hk => (⟨hk, hk.2⟩ : _ ∧ k_ ≠ gb568))) (fun _ hk => hk.2) (.slice Ao15 t561.length co15)) (fun _ hk => hk.2) (.slice Ao18 t564.length co18)) (fun _ h_ => h_.1)))); (case side6 => exact (Kd.V_reads' HO563.out).2.1); (case side7 => refine (Kd.V_reads' (e := 4) (base := w.heap.size) (ok := fun k_ => (k_ ≠ gb560 ∧ k_ ≠ gb568)) (n := t564.length) (c := co18) ?_).2.2; exact (by exact (Kd.V_mono (Kd.V_far (p := ⟨gb568, 1, none⟩) (Kd.V_far (p := ⟨gb568, 0, none⟩) (Kd.V_mono HO566.out (fun k_ hk => (⟨hk, hk.2⟩ : _ ∧ k_ ≠ gb568))) (fun _ hk => hk.2) (.slice Ao15 t561.length co15)) (fun _ hk => hk.2) (.slice Ao18 t564.length co18)) (fun _ h_ => h_.1)))); (case side8 => exact (Kd.V_reads' HO566.out).2.1); rintro e w20 ⟨rfl, hb⟩; refine ⟨_, rfl, ?_⟩; replace HO555 := aM (Kd.V_below (by exact (Kd.V_mono (Kd.V_far (p := ⟨gb568, 1, none⟩) (Kd.V_far (p := ⟨gb568, 0, none⟩) (Kd.V_mono HO555.out (fun k_ hk => (⟨hk, hk.2⟩ : _ ∧ k_ ≠ gb568))) (fun _ hk => hk.2) (.slice Ao15 t561.length co15)) (fun _ hk => hk.2) (.slice Ao18 t564.length co18)) (fun _ h_ => h_.1))) hb); replace HO558 := aM (Kd.V_below (by exact (Kd.V_mono (Kd.V_far (p := ⟨gb568, 1, none⟩) (Kd.V_far (p := ⟨gb568, 0, none⟩) (Kd.V_mono HO558.out (fun k_ hk => (⟨hk, hk.2⟩ : _ ∧ k_ ≠ gb568))) (fun _ hk => hk.2) (.slice Ao15 t561.length co15)) (fun _ hk => hk.2) (.slice Ao18 t564.length co18)) (fun _ h_ => h_.1))) hb); replace HO563 := aM (Kd.V_below (by exact (Kd.V_mono (Kd.V_far (p := ⟨gb568, 1, none⟩) (Kd.V_far (p := ⟨gb568, 0, none⟩) (Kd.V_mono HO563.out (fun k_ hk => (⟨hk, hk.2⟩ : _ ∧ k_ ≠ gb568))) (fun _ hk => hk.2) (.slice Ao15 t561.length co15)) (fun _ hk => hk.2) (.slice Ao18 t564.length co18)) (fun _ h_ => h_.1))) hb); replace HO566 := aM (Kd.V_below (by exact (Kd.V_mono (Kd.V_far (p := ⟨gb568, 1, none⟩) (Kd.V_far (p := ⟨gb568, 0, none⟩) (Kd.V_mono HO566.out (fun k_ hk => (⟨hk, hk.2⟩ : _ ∧ k_ ≠ gb568))) (fun _ hk => hk.2) (.slice Ao15 t561.length co15)) (fun _ hk => hk.2) (.slice Ao18 t564.length co18)) (fun _ h_ => h_.1))) hb); replace BK560 := aM (blk_below (g := gb560) (o := .cells #[.slice Ao10 t553.length co10, .slice Ao12 t556.length co12] 94 (0, 0)) (by refine blk_far ?_ NB560_568.out _; refine blk_far ?_ NB560_568.out _; exact BK560.out) hb); replace BK568 := aM (blk_below (g := gb568) (o := .cells #[.slice Ao15 t561.length co15, .slice Ao18 t564.length co18] 94 (0, 0)) (by refine blk_put (cs := #[.slice Ao15 t561.length co15, .slice none 0 0]) ?_ 1 _ rfl; refine blk_put (cs := #[.slice none 0 0, .slice none 0 0]) ?_ 0 _ rfl; exact BK568.out) hb); replace HB := aM (below_step (by repeat (first | (with_reducible first | exact HB.out | refine bS ?_ GE568.out))) hb); (try clear hb)))
   go_ret2
   exact ⟨by first | rfl | (simp [*, errW_none, errW_some] <;> rfl), HB.out⟩
  ·replace c6 := Bool.eq_false_iff.mpr c6
   subst c6
   replace H : (some ((⟨#[]⟩ : ByteArray), false)) = some (r1, r2) := by rw [if_neg (show ¬ (false = true) by decide)] at H; exact H
   simp only [Option.some.injEq, Prod.mk.injEq] at H
   obtain ⟨rfl, rfl⟩ := H
   go_enter Try.func57, Try.ntmps57
   go_wp2_with (first | ((with_reducible refine gate_callee (f := 74) rfl ?_); refine goesL_ (some 12) rfl rfl Try.func74 (by kernel_rfl) rfl #[.string a0] rfl (by (try simp only [List.map_toArray, List.map_cons, List.map_nil]); rfl) ?_; (with_reducible refine (spec_l4Small.calls k a0 t553 t556 true _ A3.out).mono ?_); rintro e w21 ⟨v554, v557, rfl, ho0, ho1, hb⟩; refine ⟨_, rfl, ?_⟩; have HO555 := aM (Kd.V_lower (Kd.V_mono (ok' := fun k_ => True) ho0 (fun k_ hk_ => trivial)) (below_size HB.out)); have HO558 := aM (Kd.V_lower (Kd.V_mono (ok' := fun k_ => True) ho1 (fun k_ hk_ => trivial)) (below_size HB.out)); replace HB := aM (below_step HB.out hb); (try clear hb); (try clear ho0); (try clear ho1)) | ((with_reducible refine gate_dst (N := 6) rfl ?_); refine box_event ?hg (N := 6) ?hd (cs := #[.slice none 0 0, .slice none 0 0]) (t := 94) ?hr ?_; (case hd => rfl); (case hg => rfl); (case hr => first | (go_simp; done)); intro gb560 hg w22 hbox hb; replace HO555 := aM (Kd.V_below (Kd.V_elderB HO555.out gb560 (Nat.le_of_eq hg.symm)) hb); replace HO558 := aM (Kd.V_below (Kd.V_elderB HO558.out gb560 (Nat.le_of_eq hg.symm)) hb); have BK560 := aM hbox; have GW560 := aM ((by rw [hg]; exact (below_size HB.out) : w.heap.size ≤ gb560)); have GE560 := aM ((by rw [hg]; exact (below_size HB.out) : w.heap.size ≤ gb560)); replace HB := aM (below_step HB.out hb); clear hb hbox hg; obtain ⟨Ao23, co23, eo23⟩ := Kd.V_slice HO555.out; subst eo23; have hcz24_0 : w22.cell? ⟨gb560, 0, none⟩ = some (.slice none 0 0) := (blk_cell BK560.out 0).trans rfl; have hcz24_1 : w22.cell? ⟨gb560, 1, none⟩ = some (.slice none 0 0) := (blk_cell BK560.out 1).trans rfl; have hfz24_0 := blk_frozen BK560.out 0; have hfz24_1 := blk_frozen BK560.out 1; obtain ⟨Ao25, co25, eo25⟩ := Kd.V_slice HO558.out; subst eo25) | ((with_reducible refine gate_callee (f := 74) rfl ?_); refine goesL_ (some 17) rfl rfl Try.func74 (by kernel_rfl) rfl #[.string a1] rfl (by (try simp only [List.map_toArray, List.map_cons, List.map_nil]); rfl) ?_; (with_reducible refine (spec_l4Small.calls k a1 t561 t564 false _ A4.out).mono ?_); rintro e w26 ⟨v562, v565, rfl, ho0, ho1, hb⟩; refine ⟨_, rfl, ?_⟩; replace HO555 := aM (Kd.V_below (by exact (Kd.V_mono (Kd.V_far (p := ⟨gb560, 1, none⟩) (Kd.V_far (p := ⟨gb560, 0, none⟩) (Kd.V_mono HO555.out (fun k_ hk => (⟨hk, hk.2⟩ : _ ∧ k_ ≠ gb560))) (fun _ hk => hk.2) (.slice Ao23 t553.length co23)) (fun _ hk => hk.2) (.slice Ao25 t556.length co25)) (fun _ h_ => h_.1))) hb); replace HO558 := aM (Kd.V_below (by exact (Kd.V_mono (Kd.V_far (p := ⟨gb560, 1, none⟩) (Kd.V_far (p := ⟨gb560, 0, none⟩) (Kd.V_mono HO558.out (fun k_ hk => (⟨hk, hk.2⟩ : _ ∧ k_ ≠ gb560))) (fun _ hk => hk.2) (.slice Ao23 t553.length co23)) (fun _ hk => hk.2) (.slice Ao25 t556.length co25)) (fun _ h_ => h_.1))) hb); have HO563 := aM (Kd.V_lower (Kd.V_mono (ok' := fun k_ => k_ ≠ gb560) ho0 (fun k_ hk_ => (Kd.freshB (g := gb560) (o := .cells #[.slice Ao23 t553.length co23, .slice Ao25 t556.length co25] 94 (0, 0)) (by refine blk_put (cs := #[.slice Ao23 t553.length co23, .slice none 0 0]) ?_ 1 _ rfl; refine blk_put (cs := #[.slice none 0 0, .slice none 0 0]) ?_ 0 _ rfl; exact BK560.out) k_ hk_))) (below_size (by repeat (first | (with_reducible first | exact HB.out | refine bS ?_ GE560.out))))); have HO566 := aM (Kd.V_lower (Kd.V_mono (ok' := fun k_ => k_ ≠ gb560) ho1 (fun k_ hk_ => (Kd.freshB (g := gb560) (o := .cells #[.slice Ao23 t553.length co23, .slice Ao25 t556.length co25] 94 (0, 0)) (by refine blk_put (cs := #[.slice Ao23 t553.length co23, .slice none 0 0]) ?_ 1 _ rfl; refine blk_put (cs := #[.slice none 0 0, .slice none 0 0]) ?_ 0 _ rfl; exact BK560.out) k_ hk_))) (below_size (by repeat (first | (with_reducible first | exact HB.out | refine bS ?_ GE560.out))))); replace BK560 := aM (blk_below (g := gb560) (o := .cells #[.slice Ao23 t553.length co23, .slice Ao25 t556.length co25] 94 (0, 0)) (by refine blk_put (cs := #[.slice Ao23 t553.length co23, .slice none 0 0]) ?_ 1 _ rfl; refine blk_put (cs := #[.slice none 0 0, .slice none 0 0]) ?_ 0 _ rfl; exact BK560.out) hb); replace HB := aM (below_step (by repeat (first | (with_reducible first | exact HB.out | refine bS ?_ GE560.out))) hb); (try clear hb); (try clear ho0); (try clear ho1)) | ((with_reducible refine gate_dst (N := 8) rfl ?_); refine box_event ?hg (N := 8) ?hd (cs := #[.slice none 0 0, .slice none 0 0]) (t := 94) ?hr ?_; (case hd => rfl); (case hg => rfl); (case hr => first | (go_simp; done)); intro gb568 hg w27 hbox hb; replace HO555 := aM (Kd.V_below (Kd.V_elderB HO555.out gb568 (Nat.le_of_eq hg.symm)) hb); replace HO558 := aM (Kd.V_below (Kd.V_elderB HO558.out gb568 (Nat.le_of_eq hg.symm)) hb); replace HO563 := aM (Kd.V_below (Kd.V_elderB HO563.out gb568 (Nat.le_of_eq hg.symm)) hb); replace HO566 := aM (Kd.V_below (Kd.V_elderB HO566.out gb568 (Nat.le_of_eq hg.symm)) hb); have BK568 := aM hbox; have GW568 := aM ((by rw [hg]; exact (below_size HB.out) : w.heap.size ≤ gb568)); have GE568 := aM ((by rw [hg]; exact (below_size HB.out) : w.heap.size ≤ gb568)); replace HB := aM (below_step HB.out hb); have NB560_568 := aM ((by rw [hg]; exact Nat.ne_of_lt (blk_lt (g := gb560) (o := .cells #[.slice Ao23 t553.length co23, .slice Ao25 t556.length co25] 94 (0, 0)) BK560.out) : gb560 ≠ gb568)); have NB568_560 := aM ((by rw [hg]; exact Nat.ne_of_gt (blk_lt (g := gb560) (o := .cells #[.slice Ao23 t553.length co23, .slice Ao25 t556.length co25] 94 (0, 0)) BK560.out) : gb568 ≠ gb560)); replace BK560 := aM (blk_below (g := gb560) (o := .cells #[.slice Ao23 t553.length co23, .slice Ao25 t556.length co25] 94 (0, 0)) BK560.out hb); clear hb hbox hg; obtain ⟨Ao28, co28, eo28⟩ := Kd.V_slice HO563.out; subst eo28; have hnb29 := NB568_560.out; have hnc29 := NB560_568.out; have hcz30_0 : w27.cell? ⟨gb568, 0, none⟩ = some (.slice none 0 0) := (blk_cell BK568.out 0).trans rfl; have hcz30_1 : w27.cell? ⟨gb568, 1, none⟩ = some (.slice none 0 0) := (blk_cell BK568.out 1).trans rfl; have hfz30_0 := blk_frozen BK568.out 0; have hfz30_1 := blk_frozen BK568.out 1; obtain ⟨Ao31, co31, eo31⟩ := Kd.V_slice HO566.out; subst eo31))
   go_ret2
   exact ⟨by first | rfl | (simp [*, errW_none, errW_some] <;> rfl), by repeat (first | (with_reducible first | exact HB.out | refine bS ?_ GE568.out))⟩
 ·replace c5 := Bool.eq_false_iff.mpr c5
  subst c5
  replace H : (some ((⟨#[]⟩ : ByteArray), false)) = some (r1, r2) := by rw [if_neg (show ¬ (false = true) by decide)] at H; exact H
  simp only [Option.some.injEq, Prod.mk.injEq] at H
  obtain ⟨rfl, rfl⟩ := H
  go_enter Try.func57, Try.ntmps57
  go_wp2_with (first | ((with_reducible refine gate_callee (f := 74) rfl ?_); refine goesL_ (some 12) rfl rfl Try.func74 (by kernel_rfl) rfl #[.string a0] rfl (by (try simp only [List.map_toArray, List.map_cons, List.map_nil]); rfl) ?_; (with_reducible refine (spec_l4Small.calls k a0 t553 t556 false _ A3.out).mono ?_); rintro e w32 ⟨v554, v557, rfl, ho0, ho1, hb⟩; refine ⟨_, rfl, ?_⟩; have HO555 := aM (Kd.V_lower (Kd.V_mono (ok' := fun k_ => True) ho0 (fun k_ hk_ => trivial)) (below_size HB.out)); have HO558 := aM (Kd.V_lower (Kd.V_mono (ok' := fun k_ => True) ho1 (fun k_ hk_ => trivial)) (below_size HB.out)); replace HB := aM (below_step HB.out hb); (try clear hb); (try clear ho0); (try clear ho1)) | ((with_reducible refine gate_dst (N := 6) rfl ?_); refine box_event ?hg (N := 6) ?hd (cs := #[.slice none 0 0, .slice none 0 0]) (t := 94) ?hr ?_; (case hd => rfl); (case hg => rfl); (case hr => first | (go_simp; done)); intro gb560 hg w33 hbox hb; replace HO555 := aM (Kd.V_below (Kd.V_elderB HO555.out gb560 (Nat.le_of_eq hg.symm)) hb); replace HO558 := aM (Kd.V_below (Kd.V_elderB HO558.out gb560 (Nat.le_of_eq hg.symm)) hb); have BK560 := aM hbox; have GW560 := aM ((by rw [hg]; exact (below_size HB.out) : w.heap.size ≤ gb560)); have GE560 := aM ((by rw [hg]; exact (below_size HB.out) : w.heap.size ≤ gb560)); replace HB := aM (below_step HB.out hb); clear hb hbox hg; obtain ⟨Ao34, co34, eo34⟩ := Kd.V_slice HO555.out; subst eo34; have hcz35_0 : w33.cell? ⟨gb560, 0, none⟩ = some (.slice none 0 0) := (blk_cell BK560.out 0).trans rfl; have hcz35_1 : w33.cell? ⟨gb560, 1, none⟩ = some (.slice none 0 0) := (blk_cell BK560.out 1).trans rfl; have hfz35_0 := blk_frozen BK560.out 0; have hfz35_1 := blk_frozen BK560.out 1; obtain ⟨Ao36, co36, eo36⟩ := Kd.V_slice HO558.out; subst eo36) | ((with_reducible refine gate_callee (f := 74) rfl ?_); refine goesL_ (some 17) rfl rfl Try.func74 (by kernel_rfl) rfl #[.string a1] rfl (by (try simp only [List.map_toArray, List.map_cons, List.map_nil]); rfl) ?_; (with_reducible refine (spec_l4Small.calls k a1 t561 t564 t567 _ A4.out).mono ?_); rintro e w37 ⟨v562, v565, rfl, ho0, ho1, hb⟩; refine ⟨_, rfl, ?_⟩; replace HO555 := aM (Kd.V_below (by exact (Kd.V_mono (Kd.V_far (p := ⟨gb560, 1, none⟩) (Kd.V_far (p := ⟨gb560, 0, none⟩) (Kd.V_mono HO555.out (fun k_ hk => (⟨hk, hk.2⟩ : _ ∧ k_ ≠ gb560))) (fun _ hk => hk.2) (.slice Ao34 t553.length co34)) (fun _ hk => hk.2) (.slice Ao36 t556.length co36)) (fun _ h_ => h_.1))) hb); replace HO558 := aM (Kd.V_below (by exact (Kd.V_mono (Kd.V_far (p := ⟨gb560, 1, none⟩) (Kd.V_far (p := ⟨gb560, 0, none⟩) (Kd.V_mono HO558.out (fun k_ hk => (⟨hk, hk.2⟩ : _ ∧ k_ ≠ gb560))) (fun _ hk => hk.2) (.slice Ao34 t553.length co34)) (fun _ hk => hk.2) (.slice Ao36 t556.length co36)) (fun _ h_ => h_.1))) hb); have HO563 := aM (Kd.V_lower (Kd.V_mono (ok' := fun k_ => k_ ≠ gb560) ho0 (fun k_ hk_ => (Kd.freshB (g := gb560) (o := .cells #[.slice Ao34 t553.length co34, .slice Ao36 t556.length co36] 94 (0, 0)) (by refine blk_put (cs := #[.slice Ao34 t553.length co34, .slice none 0 0]) ?_ 1 _ rfl; refine blk_put (cs := #[.slice none 0 0, .slice none 0 0]) ?_ 0 _ rfl; exact BK560.out) k_ hk_))) (below_size (by repeat (first | (with_reducible first | exact HB.out | refine bS ?_ GE560.out))))); have HO566 := aM (Kd.V_lower (Kd.V_mono (ok' := fun k_ => k_ ≠ gb560) ho1 (fun k_ hk_ => (Kd.freshB (g := gb560) (o := .cells #[.slice Ao34 t553.length co34, .slice Ao36 t556.length co36] 94 (0, 0)) (by refine blk_put (cs := #[.slice Ao34 t553.length co34, .slice none 0 0]) ?_ 1 _ rfl; refine blk_put (cs := #[.slice none 0 0, .slice none 0 0]) ?_ 0 _ rfl; exact BK560.out) k_ hk_))) (below_size (by repeat (first | (with_reducible first | exact HB.out | refine bS ?_ GE560.out))))); replace BK560 := aM (blk_below (g := gb560) (o := .cells #[.slice Ao34 t553.length co34, .slice Ao36 t556.length co36] 94 (0, 0)) (by refine blk_put (cs := #[.slice Ao34 t553.length co34, .slice none 0 0]) ?_ 1 _ rfl; refine blk_put (cs := #[.slice none 0 0, .slice none 0 0]) ?_ 0 _ rfl; exact BK560.out) hb); replace HB := aM (below_step (by repeat (first | (with_reducible first | exact HB.out | refine bS ?_ GE560.out))) hb); (try clear hb); (try clear ho0); (try clear ho1)) | ((with_reducible refine gate_dst (N := 8) rfl ?_); refine box_event ?hg (N := 8) ?hd (cs := #[.slice none 0 0, .slice none 0 0]) (t := 94) ?hr ?_; (case hd => rfl); (case hg => rfl); (case hr => first | (go_simp; done)); intro gb568 hg w38 hbox hb; replace HO555 := aM (Kd.V_below (Kd.V_elderB HO555.out gb568 (Nat.le_of_eq hg.symm)) hb); replace HO558 := aM (Kd.V_below (Kd.V_elderB HO558.out gb568 (Nat.le_of_eq hg.symm)) hb); replace HO563 := aM (Kd.V_below (Kd.V_elderB HO563.out gb568 (Nat.le_of_eq hg.symm)) hb); replace HO566 := aM (Kd.V_below (Kd.V_elderB HO566.out gb568 (Nat.le_of_eq hg.symm)) hb); have BK568 := aM hbox; have GW568 := aM ((by rw [hg]; exact (below_size HB.out) : w.heap.size ≤ gb568)); have GE568 := aM ((by rw [hg]; exact (below_size HB.out) : w.heap.size ≤ gb568)); replace HB := aM (below_step HB.out hb); have NB560_568 := aM ((by rw [hg]; exact Nat.ne_of_lt (blk_lt (g := gb560) (o := .cells #[.slice Ao34 t553.length co34, .slice Ao36 t556.length co36] 94 (0, 0)) BK560.out) : gb560 ≠ gb568)); have NB568_560 := aM ((by rw [hg]; exact Nat.ne_of_gt (blk_lt (g := gb560) (o := .cells #[.slice Ao34 t553.length co34, .slice Ao36 t556.length co36] 94 (0, 0)) BK560.out) : gb568 ≠ gb560)); replace BK560 := aM (blk_below (g := gb560) (o := .cells #[.slice Ao34 t553.length co34, .slice Ao36 t556.length co36] 94 (0, 0)) BK560.out hb); clear hb hbox hg; obtain ⟨Ao39, co39, eo39⟩ := Kd.V_slice HO563.out; subst eo39; have hnb40 := NB568_560.out; have hnc40 := NB560_568.out; have hcz41_0 : w38.cell? ⟨gb568, 0, none⟩ = some (.slice none 0 0) := (blk_cell BK568.out 0).trans rfl; have hcz41_1 : w38.cell? ⟨gb568, 1, none⟩ = some (.slice none 0 0) := (blk_cell BK568.out 1).trans rfl; have hfz41_0 := blk_frozen BK568.out 0; have hfz41_1 := blk_frozen BK568.out 1; obtain ⟨Ao42, co42, eo42⟩ := Kd.V_slice HO566.out; subst eo42))
  go_ret2
  exact ⟨by first | rfl | (simp [*, errW_none, errW_some] <;> rfl), by repeat (first | (with_reducible first | exact HB.out | refine bS ?_ GE568.out))⟩


def spec_l6In.f (a0 : Int) (a1 : Int) (a2 : Int) : Option (Bool) := if a0 ≥ a1 then (some (decide (a0 ≤ a2))) else (some false)
set_option maxHeartbeats 8000000 in
set_option maxRecDepth 100000 in
theorem spec_l6In.calls (a0 : Int) (a1 : Int) (a2 : Int) (r : Bool) (w : World) (h : spec_l6In.f a0 a1 a2 = some r) :
  Calls Try.prog 29 #[.int .i64 a0, .int .i64 a1, .int .i64 a2] w fun e w' => e = .returned (.bool r) ∧ Drawn0 w w' := by
 have H : (if a0 ≥ a1 then (some (decide (a0 ≤ a2))) else (some false)) = some r := h
 clear h
 by_cases c4 : a0 ≥ a1
 ·rw [if_pos c4] at H
  have c4b0 : decide (a1 ≤ a0) = true := decide_eq_true c4
  clear c4
  obtain rfl := Option.some.inj H
  go_enter Try.func29, Try.ntmps29
  go_wp2
  go_ret
  exact ⟨by first | rfl | (simp; done) | (simp [*]; done), by repeat (first | exact Drawn0.refl _ | apply Drawn0.step)⟩
 ·rw [if_neg c4] at H
  have c4b0 : decide (a1 ≤ a0) = false := decide_eq_false c4
  clear c4
  obtain rfl := Option.some.inj H
  go_enter Try.func29, Try.ntmps29
  go_wp2
  go_ret
  exact ⟨by first | rfl | (simp; done) | (simp [*]; done), by repeat (first | exact Drawn0.refl _ | apply Drawn0.step)⟩


mutual
def spec_SumTimes.j0 : Nat → ByteArray → Int → Bool → Option (ByteArray × Bool)
 | 0, _, _, _ => none
 | k + 1, x0, x1, x23 => if x23 = true then (some ((⟨#[]⟩ : ByteArray), false)) else (spec_SumTimes.l0 k x0 x1 (⟨#[49, 40, 48, 41]⟩ : ByteArray) 0)
def spec_SumTimes.l0 : Nat → ByteArray → Int → ByteArray → Int → Option (ByteArray × Bool)
 | 0, _, _, _, _ => none
 | k + 1, x0, x1, x8, x9 => if x9 < x1 then ((spec_SumOf.f k x8 x0).bind fun bt580 => (if bt580.2 = true then (spec_SumTimes.l0 k x0 x1 bt580.1 (wrap64 (x9 + 1))) else (some ((⟨#[]⟩ : ByteArray), false)))) else (some (x8, true))
end
def spec_SumTimes.f (k : Nat) (a0 : ByteArray) (a1 : Int) : Option (ByteArray × Bool) := (spec_l4Small.f k a0).bind fun bt571 => (if bt571.2.2 = true then ((spec_l6In.f a1 0 6).bind fun t579 => (spec_SumTimes.j0 k a0 a1 (!t579))) else (spec_SumTimes.j0 k a0 a1 true))
theorem spec_SumTimes.mono_l : ∀ k, (∀ y0 y1 y2, LeO (spec_SumTimes.j0 k y0 y1 y2) (spec_SumTimes.j0 (k + 1) y0 y1 y2)) ∧ (∀ y0 y1 y2 y3, LeO (spec_SumTimes.l0 k y0 y1 y2 y3) (spec_SumTimes.l0 (k + 1) y0 y1 y2 y3))
 | 0 => ⟨fun _ _ _ r h => by simp [spec_SumTimes.j0] at h, fun _ _ _ _ r h => by simp [spec_SumTimes.l0] at h⟩
 | k + 1 => by
  obtain ⟨ih0, ih1⟩ := spec_SumTimes.mono_l k
  refine ⟨?_, ?_⟩
  ·intro y0 y1 y2
   unfold spec_SumTimes.j0
   repeat' first | (with_reducible exact ih1 _ _ _ _) | (with_reducible exact LeO.refl _) | (with_reducible refine LeO.ite ?_ ?_)
  ·intro y0 y1 y2 y3
   unfold spec_SumTimes.l0
   repeat' first | (with_reducible exact ih1 _ _ _ _) | (with_reducible exact spec_SumOf.mono _ _ _) | (with_reducible exact LeO.refl _) | (with_reducible refine LeO.ite ?_ ?_) | (with_reducible refine LeO.bind ?_ (fun _ => ?_))
theorem spec_SumTimes.mono : ∀ a0 a1 k, LeO (spec_SumTimes.f k a0 a1) (spec_SumTimes.f (k + 1) a0 a1) := by
 intro a0 a1 k
 obtain ⟨ih0, ih1⟩ := spec_SumTimes.mono_l k
 unfold spec_SumTimes.f
 repeat' first | (with_reducible exact ih0 _ _ _) | (with_reducible exact spec_l4Small.mono _ _) | (with_reducible exact LeO.refl _) | (with_reducible refine LeO.ite ?_ ?_) | (with_reducible refine LeO.bind ?_ (fun _ => ?_))
set_option maxHeartbeats 8000000 in
set_option maxRecDepth 100000 in
theorem spec_SumTimes.calls (k : Nat) (a0 : ByteArray) (a1 : Int) (r1 : ByteArray) (r2 : Bool) (w : World) (h : spec_SumTimes.f k a0 a1 = some (r1, r2)) :
  Calls Try.prog 55 #[.string a0, .int .i64 a1] w fun e w' => e = .returned (.tuple #[.string r1, .bool r2]) ∧ Below w.heap.size w w' := by
 have hu94 := Try.underlying94
 have HB := aM (Below.refl w.heap.size w)
 have H : ((spec_l4Small.f k a0).bind fun bt571 => (if bt571.2.2 = true then ((spec_l6In.f a1 0 6).bind fun t579 => (spec_SumTimes.j0 k a0 a1 (!t579))) else (spec_SumTimes.j0 k a0 a1 true))) = some (r1, r2) := h
 clear h
 replace H := Option.bind_eq_some_iff.mp H
 obtain ⟨⟨t571, t574, t577⟩, A30, H⟩ := H
 replace H : (if t577 = true then ((spec_l6In.f a1 0 6).bind fun t579 => (spec_SumTimes.j0 k a0 a1 (!t579))) else (spec_SumTimes.j0 k a0 a1 true)) = some (r1, r2) := H
 have A3 := aM A30
 clear A30
 have HC4 := aM H
 clear H
 go_enter Try.func55, Try.ntmps55
 go_upto_region 2 with (first | ((with_reducible refine gate_callee (f := 74) rfl ?_); refine goesL_ (some 14) rfl rfl Try.func74 (by kernel_rfl) rfl #[.string a0] rfl (by (try simp only [List.map_toArray, List.map_cons, List.map_nil]); rfl) ?_; (with_reducible refine (spec_l4Small.calls k a0 t571 t574 t577 _ A3.out).mono ?_); rintro e w5 ⟨v572, v575, rfl, ho0, ho1, hb⟩; refine ⟨_, rfl, ?_⟩; have HO573 := aM (Kd.V_lower (Kd.V_mono (ok' := fun k_ => True) ho0 (fun k_ hk_ => trivial)) (below_size HB.out)); have HO576 := aM (Kd.V_lower (Kd.V_mono (ok' := fun k_ => True) ho1 (fun k_ hk_ => trivial)) (below_size HB.out)); replace HB := aM (below_step HB.out hb); (try clear hb); (try clear ho0); (try clear ho1)) | ((with_reducible refine gate_dst (N := 6) rfl ?_); refine box_event ?hg (N := 6) ?hd (cs := #[.slice none 0 0, .slice none 0 0]) (t := 94) ?hr ?_; (case hd => rfl); (case hg => rfl); (case hr => first | (go_simp; done)); intro gb578 hg w6 hbox hb; replace HO573 := aM (Kd.V_below (Kd.V_elderB HO573.out gb578 (Nat.le_of_eq hg.symm)) hb); replace HO576 := aM (Kd.V_below (Kd.V_elderB HO576.out gb578 (Nat.le_of_eq hg.symm)) hb); have BK578 := aM hbox; have GW578 := aM ((by rw [hg]; exact (below_size HB.out) : w.heap.size ≤ gb578)); have GE578 := aM ((by rw [hg]; exact (below_size HB.out) : w.heap.size ≤ gb578)); replace HB := aM (below_step HB.out hb); clear hb hbox hg; obtain ⟨Ao7, co7, eo7⟩ := Kd.V_slice HO573.out; subst eo7; have hcz8_0 : w6.cell? ⟨gb578, 0, none⟩ = some (.slice none 0 0) := (blk_cell BK578.out 0).trans rfl; have hcz8_1 : w6.cell? ⟨gb578, 1, none⟩ = some (.slice none 0 0) := (blk_cell BK578.out 1).trans rfl; have hfz8_0 := blk_frozen BK578.out 0; have hfz8_1 := blk_frozen BK578.out 1; obtain ⟨Ao9, co9, eo9⟩ := Kd.V_slice HO576.out; subst eo9))
 go_cut [23] (fun v23 wc => ∃ (kq : Nat) (x23_3 : Bool), v23 = .bool x23_3 ∧ Aside0 (spec_SumTimes.j0 kq a0 a1 x23_3 = some (r1, r2)) ∧ Aside0 (kq ≤ k) ∧ Aside0 (Kd.V Kd.bool 4 wc w.heap.size (fun k_ => k_ ≠ gb578) (.slice Ao7 t571.length co7) t571) ∧ Aside0 (Kd.V Kd.bool 4 wc w.heap.size (fun k_ => k_ ≠ gb578) (.slice Ao9 t574.length co9) t574) ∧ Aside0 (wc.heap[gb578]? = some (.cells #[(.slice Ao7 t571.length co7), (.slice Ao9 t574.length co9)] 94 (0, 0))) ∧ Aside0 (Below w.heap.size w wc))
 case first =>
  have H := HC4.out
  clear HC4
  by_cases c10 : t577 = true
  ·subst c10
   replace H : ((spec_l6In.f a1 0 6).bind fun t579 => (spec_SumTimes.j0 k a0 a1 (!t579))) = some (r1, r2) := by rw [if_pos rfl] at H; exact H
   replace H := Option.bind_eq_some_iff.mp H
   obtain ⟨t579, A110, H⟩ := H
   replace H : (spec_SumTimes.j0 k a0 a1 (!t579)) = some (r1, r2) := H
   have A11 := aM A110
   clear A110
   have H' := aM H
   clear H
   go_wp2_with (first | (go_at_call 29; (with_reducible refine (spec_l6In.calls a1 0 6 t579 _ A11.out).mono ?_); rintro e w' ⟨rfl, ⟨nd, rfl⟩⟩))
   go_meet
   case rel => exact ⟨_, (!t579), (by rfl), H', ⟨by omega⟩, ⟨by (with_reducible repeat (apply vN)); exact Kd.V_mono (Kd.V_far (p := ⟨gb578, 1, none⟩) (Kd.V_far (p := ⟨gb578, 0, none⟩) (Kd.V_mono HO573.out (fun k_ hk => (⟨hk, hk.2⟩ : _ ∧ k_ ≠ gb578))) (fun _ hk => hk.2) (.slice Ao7 t571.length co7)) (fun _ hk => hk.2) (.slice Ao9 t574.length co9)) (fun _ hk => hk.1.2)⟩, ⟨by (with_reducible repeat (apply vN)); exact Kd.V_mono (Kd.V_far (p := ⟨gb578, 1, none⟩) (Kd.V_far (p := ⟨gb578, 0, none⟩) (Kd.V_mono HO576.out (fun k_ hk => (⟨hk, hk.2⟩ : _ ∧ k_ ≠ gb578))) (fun _ hk => hk.2) (.slice Ao7 t571.length co7)) (fun _ hk => hk.2) (.slice Ao9 t574.length co9)) (fun _ hk => hk.1.2)⟩, ⟨by (with_reducible repeat (refine kN ?_ _)); refine blk_put (cs := #[.slice Ao7 t571.length co7, .slice none 0 0]) ?_ 1 _ rfl; refine blk_put (cs := #[.slice none 0 0, .slice none 0 0]) ?_ 0 _ rfl; exact BK578.out⟩, ⟨by repeat (first | (with_reducible first | exact HB.out | apply bN | refine bS ?_ GE578.out))⟩⟩
  ·replace c10 := Bool.eq_false_iff.mpr c10
   subst c10
   replace H : (spec_SumTimes.j0 k a0 a1 true) = some (r1, r2) := by rw [if_neg (show ¬ (false = true) by decide)] at H; exact H
   have H' := aM H
   clear H
   go_wp2
   go_meet
   case rel => exact ⟨_, (true), (by rfl), H', ⟨by omega⟩, ⟨by exact Kd.V_mono (Kd.V_far (p := ⟨gb578, 1, none⟩) (Kd.V_far (p := ⟨gb578, 0, none⟩) (Kd.V_mono HO573.out (fun k_ hk => (⟨hk, hk.2⟩ : _ ∧ k_ ≠ gb578))) (fun _ hk => hk.2) (.slice Ao7 t571.length co7)) (fun _ hk => hk.2) (.slice Ao9 t574.length co9)) (fun _ hk => hk.1.2)⟩, ⟨by exact Kd.V_mono (Kd.V_far (p := ⟨gb578, 1, none⟩) (Kd.V_far (p := ⟨gb578, 0, none⟩) (Kd.V_mono HO576.out (fun k_ hk => (⟨hk, hk.2⟩ : _ ∧ k_ ≠ gb578))) (fun _ hk => hk.2) (.slice Ao7 t571.length co7)) (fun _ hk => hk.2) (.slice Ao9 t574.length co9)) (fun _ hk => hk.1.2)⟩, ⟨by refine blk_put (cs := #[.slice Ao7 t571.length co7, .slice none 0 0]) ?_ 1 _ rfl; refine blk_put (cs := #[.slice none 0 0, .slice none 0 0]) ?_ 0 _ rfl; exact BK578.out⟩, ⟨by repeat (first | (with_reducible first | exact HB.out | refine bS ?_ GE578.out))⟩⟩
 case rest =>
  clear HC4
  try clear hcz8_0
  try clear hcz8_1
  try clear hfz8_0
  try clear hfz8_1
  obtain ⟨kq, x23_3, rfl, HA, HJ3, HO_579000, HO_579001, BK578, HB⟩ := hcut
  cases kq with
  | zero => exact absurd HA.out (by simp [spec_SumTimes.j0])
  | succ kj3 =>
   have H := HA.out
   clear HA
   simp only [spec_SumTimes.j0] at H
   by_cases c12 : x23_3 = true
   ·subst c12
    replace H : (some ((⟨#[]⟩ : ByteArray), false)) = some (r1, r2) := by rw [if_pos rfl] at H; exact H
    simp only [Option.some.injEq, Prod.mk.injEq] at H
    obtain ⟨rfl, rfl⟩ := H
    go_wp2
    go_ret2
    exact ⟨by first | rfl | (simp [*, errW_none, errW_some] <;> rfl), HB.out⟩
   ·replace c12 := Bool.eq_false_iff.mpr c12
    subst c12
    replace H : (spec_SumTimes.l0 kj3 a0 a1 (⟨#[49, 40, 48, 41]⟩ : ByteArray) 0) = some (r1, r2) := by rw [if_neg (show ¬ (false = true) by decide)] at H; exact H
    have H' := aM H
    clear H
    go_wp2
    go_loopg [8, 9] kj3 (fun kq v8 v9 w' => ∃ (x8_2 : ByteArray) (x9_2 : Int), v8 = .string x8_2 ∧ v9 = .int .i64 x9_2 ∧ Aside0 (spec_SumTimes.l0 kq a0 a1 x8_2 x9_2 = some (r1, r2)) ∧ Aside0 (kq ≤ kj3) ∧ Aside0 (Kd.V Kd.bool 4 w' w.heap.size (fun k_ => k_ ≠ gb578) (.slice Ao7 t571.length co7) t571) ∧ Aside0 (Kd.V Kd.bool 4 w' w.heap.size (fun k_ => k_ ≠ gb578) (.slice Ao9 t574.length co9) t574) ∧ Aside0 (w'.heap[gb578]? = some (.cells #[(.slice Ao7 t571.length co7), (.slice Ao9 t574.length co9)] 94 (0, 0))) ∧ Aside0 (Below w.heap.size w w'))
    case atStart => exact ⟨((⟨#[49, 40, 48, 41]⟩ : ByteArray)), (0), (by rfl), (by rfl), H', ⟨Nat.le_refl _⟩, ⟨by exact HO_579000.out⟩, ⟨by exact HO_579001.out⟩, ⟨by exact BK578.out⟩, ⟨HB.out⟩⟩
    case round =>
     clear H'
     obtain ⟨x8_2, x9_2, rfl, rfl, HA, HK2, HO_579000, HO_579001, BK578, HB⟩ := hrel
     cases gk with
     | zero => exact absurd HA.out (by simp [spec_SumTimes.l0])
     | succ k2 =>
      have H := HA.out
      clear HA
      simp only [spec_SumTimes.l0] at H
      by_cases c13 : x9_2 < a1
      ·rw [if_pos c13] at H
       have c13b0 : decide (x9_2 < a1) = true := decide_eq_true c13
       clear c13
       replace H := Option.bind_eq_some_iff.mp H
       obtain ⟨⟨t580, t581⟩, A140, H⟩ := H
       replace H : (if t581 = true then (spec_SumTimes.l0 k2 a0 a1 t580 (wrap64 (x9_2 + 1))) else (some ((⟨#[]⟩ : ByteArray), false))) = some (r1, r2) := H
       have A14 := aM A140
       clear A140
       by_cases c15 : t581 = true
       ·subst c15
        replace H : (spec_SumTimes.l0 k2 a0 a1 t580 (wrap64 (x9_2 + 1))) = some (r1, r2) := by rw [if_pos rfl] at H; exact H
        have H' := aM H
        clear H
        go_wp2_with (first | ((with_reducible refine gate_callee (f := 57) rfl ?_); refine goesL_ (some 32) rfl rfl Try.func57 (by kernel_rfl) rfl #[.string x8_2, .string a0] rfl (by (try simp only [List.map_toArray, List.map_cons, List.map_nil]); rfl) ?_; (with_reducible refine (spec_SumOf.calls k2 x8_2 a0 t580 true _ A14.out).mono ?_); rintro e w16 ⟨rfl, hb⟩; refine ⟨_, rfl, ?_⟩; replace HO_579000 := aM (Kd.V_below HO_579000.out hb); replace HO_579001 := aM (Kd.V_below HO_579001.out hb); replace BK578 := aM (blk_below (g := gb578) (o := .cells #[.slice Ao7 t571.length co7, .slice Ao9 t574.length co9] 94 (0, 0)) BK578.out hb); replace HB := aM (below_step HB.out hb); (try clear hb)))
        go_roundg k2
        case measure => have := HJ3.out; have := HK2.out; omega
        case rel => exact ⟨(t580), (wrap64 (x9_2 + 1)), (by rfl), (by rfl), H', ⟨by have := HJ3.out; have := HK2.out; omega⟩, ⟨by exact HO_579000.out⟩, ⟨by exact HO_579001.out⟩, ⟨by exact BK578.out⟩, ⟨HB.out⟩⟩
       ·replace c15 := Bool.eq_false_iff.mpr c15
        subst c15
        replace H : (some ((⟨#[]⟩ : ByteArray), false)) = some (r1, r2) := by rw [if_neg (show ¬ (false = true) by decide)] at H; exact H
        simp only [Option.some.injEq, Prod.mk.injEq] at H
        obtain ⟨rfl, rfl⟩ := H
        go_wp2_with (first | ((with_reducible refine gate_callee (f := 57) rfl ?_); refine goesL_ (some 32) rfl rfl Try.func57 (by kernel_rfl) rfl #[.string x8_2, .string a0] rfl (by (try simp only [List.map_toArray, List.map_cons, List.map_nil]); rfl) ?_; (with_reducible refine (spec_SumOf.calls k2 x8_2 a0 t580 false _ A14.out).mono ?_); rintro e w17 ⟨rfl, hb⟩; refine ⟨_, rfl, ?_⟩; replace HO_579000 := aM (Kd.V_below HO_579000.out hb); replace HO_579001 := aM (Kd.V_below HO_579001.out hb); replace BK578 := aM (blk_below (g := gb578) (o := .cells #[.slice Ao7 t571.length co7, .slice Ao9 t574.length co9] 94 (0, 0)) BK578.out hb); replace HB := aM (below_step HB.out hb); (try clear hb)))
        go_ret2
        exact ⟨by first | rfl | (simp [*, errW_none, errW_some] <;> rfl), HB.out⟩
      ·rw [if_neg c13] at H
       have c13b0 : decide (x9_2 < a1) = false := decide_eq_false c13
       clear c13
       simp only [Option.some.injEq, Prod.mk.injEq] at H
       obtain ⟨rfl, rfl⟩ := H
       go_wp2
       go_ret2
       exact ⟨by first | rfl | (simp [*, errW_none, errW_some] <;> rfl), HB.out⟩

end Go.Proofs.Ytedhckahjinieaa.Q
