/- The law FnStarPlus holds for all that it draws. -/
import Derived.Test.YtpkpgdlbgcjloaaCFnStarPlus8
import Derived.Test.YtpkpgdlbgcjloaaCFnStarPlus9
import Derived.Test.YtpkpgdlbgcjloaaCFnStarPlus10
namespace Go.Proofs.Ytpkpgdlbgcjloaa.Q
open Go.RowKit Go.Proofs.YtpkpgdlbgcjloaaW.PrintWords Go.Proofs.YtpkpgdlbgcjloaaW.PrintLast Go.Proofs.YtpkpgdlbgcjloaaW.PrintMore
attribute [local go_sem] max2_int min2_int max_two min_two max_three min_three max_four min_four   -- for this text's walks alone
set_option linter.unusedVariables false
set_option linter.unusedSimpArgs false
mutual
def spec_l4Star.l0 : Nat → Int → List Bool → List Int → Int → List Bool → List Bool → Option (List Bool)
 | 0, _, _, _, _, _, _ => none
 | k + 1, x1, x5, x6, x7, x487000, x487001 => if x7 < x1 then (spec_l4Star.l1 k x1 x5 x6 x7 0 x487000 x487001) else (some x5)
def spec_l4Star.j2 : Nat → Int → List Bool → List Int → Int → List Bool → List Bool → Option (List Bool)
 | 0, _, _, _, _, _, _ => none
 | k + 1, x1, x5, x6, x7, x487000, x487001 => if x7 = 0 then (if 0 < (x5.length : Int) then (spec_l4Star.l0 k x1 (x5.set (0 : Int).toNat true) x6 (wrap64 (x7 + 1)) x487000 x487001) else (none)) else (if 0 ≤ x7 then (if x7 < (x5.length : Int) then (if rdOf false x5 x7 = true then (spec_l4Star.l0 k x1 x5 x6 (wrap64 (x7 + 1)) x487000 x487001) else ((spec_l1Has.f x487000 x487001 x7).bind fun t499 => (if t499 = true then (if x6.length < 17592186044416 then (spec_l4Star.l0 k x1 (x5.set (x7 : Int).toNat true) (x6 ++ [x7]) (wrap64 (x7 + 1)) x487000 x487001) else (none)) else (spec_l4Star.l0 k x1 x5 x6 (wrap64 (x7 + 1)) x487000 x487001)))) else (none)) else (none))
def spec_l4Star.l1 : Nat → Int → List Bool → List Int → Int → Int → List Bool → List Bool → Option (List Bool)
 | 0, _, _, _, _, _, _, _ => none
 | k + 1, x1, x5, x6, x7, x8, x487000, x487001 => if x8 < (x6.length : Int) then (if 0 ≤ x7 then (if x7 < (x5.length : Int) then (if rdOf false x5 x7 = true then (spec_l4Star.j2 k x1 x5 x6 x7 x487000 x487001) else (if 0 ≤ x8 then (if 0 ≤ (wrap64 (x7 - (rd x6 x8))) then (if (wrap64 (x7 - (rd x6 x8))) < (x5.length : Int) then (spec_l4Star.l1 k x1 (x5.set (x7 : Int).toNat (rdOf false x5 (wrap64 (x7 - (rd x6 x8))))) x6 x7 (wrap64 (x8 + 1)) x487000 x487001) else (none)) else (none)) else (none))) else (none)) else (none)) else (spec_l4Star.j2 k x1 x5 x6 x7 x487000 x487001)
end
def spec_l4Star.f (k : Nat) (l0_0 : List Bool) (l0_1 : List Bool) (a1 : Int) : Option (List Bool) := if 0 ≤ a1 then (if (a1 : Int).toNat ≤ 281474976710656 then (spec_l4Star.l0 k a1 (List.replicate (a1 : Int).toNat false) (([] : List Int)) 0 l0_0 l0_1) else (none)) else (none)
theorem spec_l4Star.mono_l : ∀ k, (∀ y0 y1 y2 y3 y4 y5, LeO (spec_l4Star.l0 k y0 y1 y2 y3 y4 y5) (spec_l4Star.l0 (k + 1) y0 y1 y2 y3 y4 y5)) ∧ (∀ y0 y1 y2 y3 y4 y5, LeO (spec_l4Star.j2 k y0 y1 y2 y3 y4 y5) (spec_l4Star.j2 (k + 1) y0 y1 y2 y3 y4 y5)) ∧ (∀ y0 y1 y2 y3 y4 y5 y6, LeO (spec_l4Star.l1 k y0 y1 y2 y3 y4 y5 y6) (spec_l4Star.l1 (k + 1) y0 y1 y2 y3 y4 y5 y6))
 | 0 => ⟨fun _ _ _ _ _ _ r h => by simp [spec_l4Star.l0] at h, fun _ _ _ _ _ _ r h => by simp [spec_l4Star.j2] at h, fun _ _ _ _ _ _ _ r h => by simp [spec_l4Star.l1] at h⟩
 | k + 1 => by
  obtain ⟨ih0, ih1, ih2⟩ := spec_l4Star.mono_l k
  refine ⟨?_, ?_, ?_⟩
  ·intro y0 y1 y2 y3 y4 y5
   unfold spec_l4Star.l0
   repeat' first | (with_reducible exact ih2 _ _ _ _ _ _ _) | (with_reducible exact LeO.refl _) | (with_reducible refine LeO.ite ?_ ?_)
  ·intro y0 y1 y2 y3 y4 y5
   unfold spec_l4Star.j2
   repeat' first | (with_reducible exact ih0 _ _ _ _ _ _) | (with_reducible exact LeO.refl _) | (with_reducible refine LeO.ite ?_ ?_) | (with_reducible refine LeO.bind ?_ (fun _ => ?_))
  ·intro y0 y1 y2 y3 y4 y5 y6
   unfold spec_l4Star.l1
   repeat' first | (with_reducible exact ih1 _ _ _ _ _ _) | (with_reducible exact ih2 _ _ _ _ _ _ _) | (with_reducible exact LeO.refl _) | (with_reducible refine LeO.ite ?_ ?_)
theorem spec_l4Star.mono : ∀ a0 a1 a2 k, LeO (spec_l4Star.f k a0 a1 a2) (spec_l4Star.f (k + 1) a0 a1 a2) := by
 intro a0 a1 a2 k
 obtain ⟨ih0, ih1, ih2⟩ := spec_l4Star.mono_l k
 unfold spec_l4Star.f
 repeat' first | (with_reducible exact ih0 _ _ _ _ _ _) | (with_reducible exact LeO.refl _) | (with_reducible refine LeO.ite ?_ ?_)
set_option maxHeartbeats 8000000 in
set_option maxRecDepth 100000 in
theorem spec_l4Star.calls (k : Nat) (A0_0 : Option Addr) (c0_0 : Nat) (l0_0 : List Bool) (A0_1 : Option Addr) (c0_1 : Nat) (l0_1 : List Bool) (a1 : Int) (r : List Bool) (w : World) (hr0_0 : Kd.C Kd.bool w A0_0 l0_0.length l0_0) (hc0_0 : l0_0.length ≤ c0_0) (hr0_1 : Kd.C Kd.bool w A0_1 l0_1.length l0_1) (hc0_1 : l0_1.length ≤ c0_1) (h : spec_l4Star.f k l0_0 l0_1 a1 = some r) :
  Calls Try.prog 74 #[.agg #[.slice A0_0 l0_0.length c0_0, .slice A0_1 l0_1.length c0_1], .int .i64 a1] w fun e w' => ∃ v0_ : Value, e = .returned (v0_) ∧ Kd.R Kd.bool 4 w' w.heap.size (fun _ => True) v0_ r ∧ Below w.heap.size w w' := by
 have hu66 := Try.underlying66
 have HR0_0 := Aside0.mk hr0_0
 have HC0_0 := Aside0.mk hc0_0
 clear hr0_0 hc0_0
 have HR0_1 := Aside0.mk hr0_1
 have HC0_1 := Aside0.mk hc0_1
 clear hr0_1 hc0_1
 have HB := Aside0.mk (Below.refl w.heap.size w)
 have H : (if 0 ≤ a1 then (if (a1 : Int).toNat ≤ 281474976710656 then (spec_l4Star.l0 k a1 (List.replicate (a1 : Int).toNat false) (([] : List Int)) 0 l0_0 l0_1) else (none)) else (none)) = some r := h
 clear h
 by_cases c3 : 0 ≤ a1
 ·rw [if_pos c3] at H
  have c3b0 := eq_true c3
  have c3b1 : decide (0 ≤ a1) = true := decide_eq_true c3
  clear c3
  by_cases c4 : (a1 : Int).toNat ≤ 281474976710656
  ·rw [if_pos c4] at H
   have c4b0 := eq_true c4
   have c4b1 : decide ((a1 : Int).toNat ≤ 281474976710656) = true := decide_eq_true c4
   clear c4
   obtain ⟨y487, hy487⟩ : ∃ y_ : List Bool, y_ = (List.replicate (a1 : Int).toNat false) := ⟨_, rfl⟩
   replace H : (spec_l4Star.l0 k a1 y487 (([] : List Int)) 0 l0_0 l0_1) = some r := by first | (rw [hy487]; with_reducible exact H)
   have Ny487 := Aside0.mk hy487
   clear hy487
   obtain ⟨y490, hy490⟩ : ∃ y_ : List Int, y_ = (([] : List Int)) := ⟨_, rfl⟩
   replace H : (spec_l4Star.l0 k a1 y487 y490 0 l0_0 l0_1) = some r := by first | (rw [hy490]; with_reducible exact H)
   have Ny490 := Aside0.mk hy490
   clear hy490
   have H' := Aside0.mk H
   clear H
   go_enter Try.func74, Try.ntmps74
   go_wp2_with (first | ((with_reducible refine gate_dst (N := 2) rfl ?_); refine box_event ?hg (N := 2) ?hd (cs := #[.slice A0_0 l0_0.length c0_0, .slice A0_1 l0_1.length c0_1]) (t := 66) ?hr ?_; (case hd => rfl); (case hg => rfl); (case hr => first | (go_simp; done)); intro gb486 hg w5 hbox hb; have BK486 := Aside0.mk hbox; have GW486 := Aside0.mk ((by rw [hg]; exact (below_size HB.out) : w.heap.size ≤ gb486)); have GE486 := Aside0.mk ((by rw [hg]; exact (below_size HB.out) : w.heap.size ≤ gb486)); replace HB := Aside0.mk (below_step HB.out hb); clear hb hbox hg) | ((with_reducible refine gate_dst (N := 10) rfl ?_); refine Kd.R_make Kd.bool _ 4 rfl (N := 10) rfl 58 _ _ rfl a1 rfl rfl Try.underlying58 (.bool false) 1 info4 rfl (by decide) (by omega) false (ok := fun _ => True) (okp := fun _ => True) rfl (fun _ hk => hk) trivial (of_decide_eq_true (by (with_reducible assumption))) (Nat.le_trans (Nat.mul_le_mul_right _ (of_decide_eq_true (by (with_reducible assumption)) : a1.toNat ≤ 281474976710656)) (by omega)) (Below.refl _ _) (Nat.le_refl _) ?_; intro v488 w6 ho7 hb hg_ hnew_; clear hg_ hnew_; (rw [← Ny487.out] at ho7); have HO489 := Aside0.mk (Kd.R_lower ho7 (below_size HB.out)); replace BK486 := Aside0.mk (blk_below (g := gb486) (o := .cells #[.slice A0_0 l0_0.length c0_0, .slice A0_1 l0_1.length c0_1] 66 (0, 0)) BK486.out hb); replace HB := Aside0.mk (below_step HB.out hb); clear hb ho7) | ((with_reducible refine gate_dst (N := 11) rfl ?_); refine Kd.R_lit (Kd.int .i64) _ 3 ?hg (N := 11) ?hd (xs := ([] : List Int)) (inner := []) (ok := fun _ => True) (okp := fun _ => True) ?hr ?hp (fun _ hk => hk) trivial (Below.refl _ _) (Nat.le_refl _) (by simp) ?_; (case hd => rfl); (case hg => rfl); (case hr => first | (go_simp; done)); (case hp => exact (Reps.none _ _)); intro v491 w8 ho9 hb hg_ hnew_; clear hg_ hnew_; (rw [← Ny490.out] at ho9); replace HO489 := Aside0.mk (Kd.R_below HO489.out hb); have HO492 := Aside0.mk (Kd.R_lower ho9 (below_size HB.out)); replace BK486 := Aside0.mk (blk_below (g := gb486) (o := .cells #[.slice A0_0 l0_0.length c0_0, .slice A0_1 l0_1.length c0_1] 66 (0, 0)) BK486.out hb); replace HB := Aside0.mk (below_step HB.out hb); clear hb ho9))
   go_loopg [6, 7] k (fun kq v6 v7 w' => ∃ (x5_1 : List Bool) (x6_1 : List Int) (x7_1 : Int), v7 = .int .i64 x7_1 ∧ Aside0 (spec_l4Star.l0 kq a1 x5_1 x6_1 x7_1 l0_0 l0_1 = some r) ∧ Aside0 (kq ≤ k) ∧ Aside0 (Kd.R Kd.bool 4 w' w.heap.size (fun _ => True) v488 x5_1) ∧ Aside0 (Kd.R (Kd.int .i64) 3 w' w.heap.size (fun _ => True) v6 x6_1) ∧ Aside0 (w'.heap[gb486]? = some (.cells #[(.slice A0_0 l0_0.length c0_0), (.slice A0_1 l0_1.length c0_1)] 66 (0, 0))) ∧ Aside0 (Below w.heap.size w w'))
   case atStart => exact ⟨(y487), (y490), (0), (by rfl), H', ⟨Nat.le_refl _⟩, ⟨by exact HO489.out⟩, ⟨by exact HO492.out⟩, ⟨by exact BK486.out⟩, ⟨HB.out⟩⟩
   case round =>
    clear H'
    try clear c3b0
    try clear c3b1
    try clear c4b0
    try clear c4b1
    obtain ⟨x5_1, x6_1, x7_1, rfl, HA, HK1, HO_5, HO_6, BK486, HB⟩ := hrel
    cases gk with
    | zero => exact absurd HA.out (by simp [spec_l4Star.l0])
    | succ k1 =>
     have H := HA.out
     clear HA
     simp only [spec_l4Star.l0] at H
     by_cases c10 : x7_1 < a1
     ·rw [if_pos c10] at H
      have c10b0 : decide (x7_1 < a1) = true := decide_eq_true c10
      clear c10
      have HC11 := Aside0.mk H
      clear H
      go_upto_block 2 with (fail)
      go_cut [] (fun wc => ∃ (kq : Nat) (x5_10 : List Bool), Aside0 (spec_l4Star.j2 kq a1 x5_10 x6_1 x7_1 l0_0 l0_1 = some r) ∧ Aside0 (kq ≤ k1) ∧ Aside0 (Kd.R Kd.bool 4 wc w.heap.size (fun _ => True) v488 x5_10) ∧ Aside0 (Kd.R (Kd.int .i64) 3 wc w.heap.size (fun _ => True) u6 x6_1) ∧ Aside0 (wc.heap[gb486]? = some (.cells #[(.slice A0_0 l0_0.length c0_0), (.slice A0_1 l0_1.length c0_1)] 66 (0, 0))) ∧ Aside0 (Below w.heap.size w wc))
      case first =>
       have H := HC11.out
       clear HC11
       have H' := Aside0.mk H
       clear H
       go_wp2
       go_loopg [8] k1 (fun kq v8 w' => ∃ (x5_2 : List Bool) (x8_2 : Int), v8 = .int .i64 x8_2 ∧ Aside0 (spec_l4Star.l1 kq a1 x5_2 x6_1 x7_1 x8_2 l0_0 l0_1 = some r) ∧ Aside0 (kq ≤ k1) ∧ Aside0 (Kd.R Kd.bool 4 w' w.heap.size (fun _ => True) v488 x5_2) ∧ Aside0 (Kd.R (Kd.int .i64) 3 w' w.heap.size (fun _ => True) u6 x6_1) ∧ Aside0 (w'.heap[gb486]? = some (.cells #[(.slice A0_0 l0_0.length c0_0), (.slice A0_1 l0_1.length c0_1)] 66 (0, 0))) ∧ Aside0 (Below w.heap.size w w'))
       case atStart => exact ⟨(x5_1), (0), (by rfl), H', ⟨Nat.le_refl _⟩, ⟨by exact HO_5.out⟩, ⟨by exact HO_6.out⟩, ⟨by exact BK486.out⟩, ⟨HB.out⟩⟩
       case round =>
        clear H'
        try clear c10b0
        obtain ⟨x5_2, x8_2, rfl, HA, HK2, HO_5, HO_6, BK486, HB⟩ := hrel
        cases gk with
        | zero => exact absurd HA.out (by simp [spec_l4Star.l1])
        | succ k2 =>
         have H := HA.out
         clear HA
         simp only [spec_l4Star.l1] at H
         by_cases c12 : x8_2 < (x6_1.length : Int)
         ·rw [if_pos c12] at H
          have c12b0 : decide (x8_2 < (x6_1.length : Int)) = true := decide_eq_true c12
          clear c12
          by_cases c13 : 0 ≤ x7_1
          ·rw [if_pos c13] at H
           have c13b0 : decide (0 ≤ x7_1) = true := decide_eq_true c13
           clear c13
           by_cases c14 : x7_1 < (x5_2.length : Int)
           ·rw [if_pos c14] at H
            have c14b0 : decide (x7_1 < (x5_2.length : Int)) = true := decide_eq_true c14
            clear c14
            obtain ⟨bq15, hbq15⟩ : ∃ b_ : Bool, b_ = (rdOf false x5_2 x7_1) := ⟨_, rfl⟩
            replace H : (if bq15 = true then (spec_l4Star.j2 k2 a1 x5_2 x6_1 x7_1 l0_0 l0_1) else (if 0 ≤ x8_2 then (if 0 ≤ (wrap64 (x7_1 - (rd x6_1 x8_2))) then (if (wrap64 (x7_1 - (rd x6_1 x8_2))) < (x5_2.length : Int) then (spec_l4Star.l1 k2 a1 (x5_2.set (x7_1 : Int).toNat (rdOf false x5_2 (wrap64 (x7_1 - (rd x6_1 x8_2))))) x6_1 x7_1 (wrap64 (x8_2 + 1)) l0_0 l0_1) else (none)) else (none)) else (none))) = some r := by rw [← hbq15] at H; exact H
            have Nbq15 := Aside0.mk hbq15
            clear hbq15
            by_cases c16 : bq15 = true
            ·subst c16
             replace H : (spec_l4Star.j2 k2 a1 x5_2 x6_1 x7_1 l0_0 l0_1) = some r := by rw [if_pos rfl] at H; exact H
             have H' := Aside0.mk H
             clear H
             obtain ⟨Ao17, co17, eo17⟩ := Kd.R_slice HO_6.out
             subst eo17
             obtain ⟨Ao18, co18, eo18⟩ := Kd.R_slice HO_5.out
             subst eo18
             have p493 : 0 ≤ (x7_1 : Int) := of_decide_eq_true (by (with_reducible assumption))
             have q493 : x7_1 < (x5_2.length : Int) := of_decide_eq_true (by (with_reducible assumption))
             obtain ⟨ad493, e493, hx493_0⟩ := Kd.at_bool (Kd.R_reads' HO_5.out).2.2 x7_1 p493 q493
             (try rw [← Nbq15.out] at hx493_0)
             cases e493
             replace p493 := eq_true p493
             replace q493 := eq_true q493
             go_wp2
             go_meet
             case rel => exact ⟨_, (x5_2), H', ⟨by have := HK1.out; have := HK2.out; omega⟩, ⟨by exact HO_5.out⟩, ⟨by exact HO_6.out⟩, ⟨by exact BK486.out⟩, ⟨HB.out⟩⟩
            ·replace c16 := Bool.eq_false_iff.mpr c16
             subst c16
             replace H : (if 0 ≤ x8_2 then (if 0 ≤ (wrap64 (x7_1 - (rd x6_1 x8_2))) then (if (wrap64 (x7_1 - (rd x6_1 x8_2))) < (x5_2.length : Int) then (spec_l4Star.l1 k2 a1 (x5_2.set (x7_1 : Int).toNat (rdOf false x5_2 (wrap64 (x7_1 - (rd x6_1 x8_2))))) x6_1 x7_1 (wrap64 (x8_2 + 1)) l0_0 l0_1) else (none)) else (none)) else (none)) = some r := by rw [if_neg (show ¬ (false = true) by decide)] at H; exact H
             by_cases c19 : 0 ≤ x8_2
             ·rw [if_pos c19] at H
              have c19b0 : decide (0 ≤ x8_2) = true := decide_eq_true c19
              clear c19
              obtain ⟨ji20, hji20⟩ : ∃ j_ : Int, (wrap64 (x7_1 - (rd x6_1 x8_2))) = j_ := ⟨_, rfl⟩
              replace H : (if 0 ≤ (ji20) then (if (ji20) < (x5_2.length : Int) then (spec_l4Star.l1 k2 a1 (x5_2.set (x7_1 : Int).toNat (rdOf false x5_2 (ji20))) x6_1 x7_1 (wrap64 (x8_2 + 1)) l0_0 l0_1) else (none)) else (none)) = some r := by first | (rw [hji20] at H; exact H)
              have hji20w : (IntKind.i64.wrap (x7_1 - (rd x6_1 x8_2))) = ji20 := (i64_w _).trans hji20
              by_cases c21 : 0 ≤ (ji20)
              ·rw [if_pos c21] at H
               have c21b0 : decide (0 ≤ (ji20)) = true := decide_eq_true c21
               clear c21
               by_cases c22 : (ji20) < (x5_2.length : Int)
               ·rw [if_pos c22] at H
                have c22b0 : decide ((ji20) < (x5_2.length : Int)) = true := decide_eq_true c22
                clear c22
                obtain ⟨y496, hy496⟩ : ∃ y_ : List Bool, y_ = (x5_2.set (x7_1 : Int).toNat (rdOf false x5_2 (ji20))) := ⟨_, rfl⟩
                replace H : (spec_l4Star.l1 k2 a1 y496 x6_1 x7_1 (wrap64 (x8_2 + 1)) l0_0 l0_1) = some r := by first | (rw [hy496]; with_reducible exact H)
                have Ny496 := Aside0.mk hy496
                clear hy496
                have H' := Aside0.mk H
                clear H
                obtain ⟨Ao24, co24, eo24⟩ := Kd.R_slice HO_6.out
                subst eo24
                obtain ⟨Ao25, co25, eo25⟩ := Kd.R_slice HO_5.out
                subst eo25
                have p493 : 0 ≤ (x7_1 : Int) := of_decide_eq_true (by (with_reducible assumption))
                have q493 : x7_1 < (x5_2.length : Int) := of_decide_eq_true (by (with_reducible assumption))
                obtain ⟨ad493, e493, hx493_0⟩ := Kd.at_bool (Kd.R_reads' HO_5.out).2.2 x7_1 p493 q493
                (try rw [← Nbq15.out] at hx493_0)
                cases e493
                replace p493 := eq_true p493
                replace q493 := eq_true q493
                have p494 : 0 ≤ (x8_2 : Int) := of_decide_eq_true (by (with_reducible assumption))
                have q494 : x8_2 < (x6_1.length : Int) := of_decide_eq_true (by (with_reducible assumption))
                obtain ⟨ad494, e494, hx494_0⟩ := Kd.at_int (Kd.R_reads' HO_6.out).2.2 x8_2 p494 q494
                cases e494
                replace p494 := eq_true p494
                replace q494 := eq_true q494
                have p495 : 0 ≤ ((ji20) : Int) := of_decide_eq_true (by (with_reducible assumption))
                have q495 : (ji20) < (x5_2.length : Int) := of_decide_eq_true (by (with_reducible assumption))
                obtain ⟨ad495, e495, hx495_0⟩ := Kd.at_bool (Kd.R_reads' HO_5.out).2.2 (ji20) p495 q495
                obtain rfl : ad493 = ad495 := (by injection e495)
                replace p495 := eq_true p495
                replace q495 := eq_true q495
                have p23 : 0 ≤ (x7_1 : Int) := of_decide_eq_true (by (with_reducible assumption))
                have q23 : (x7_1 : Int) < ((x5_2.length : Int) : Int) := of_decide_eq_true (by (with_reducible assumption))
                obtain ⟨go23, co23, eo23, gb23, gl23, cl23, HG23⟩ := Kd.R_form HO_5.out (by omega)
                (cases eo23)
                have GB23 := Aside0.mk gb23
                have GG23 := Aside0.mk HG23
                clear gb23 gl23 HG23
                (simp only [add_plain] at hx493_0)
                (simp only [add_plain] at hx495_0)
                obtain ⟨hx23_0, hf23_0⟩ := Kd.R_celln false HO_5.out (x7_1 : Int) p23 q23
                replace p23 := eq_true p23
                replace q23 := eq_true q23
                have HP26 := Kd.R_putg HO_5.out (x7_1 : Int) (rdOf false x5_2 (ji20))
                go_wp2_with (first | ((with_reducible refine gate_store (t := 4) (p := 41) rfl ?_); refine store_event (t := 4) (p := 41) (v := ?vo_w27) (w1 := (wr.setCell ⟨go23, (x7_1 : Int).toNat, none⟩ (.bool (rdOf false x5_2 (ji20))))) ?hg ?ho ?hn ?hr ?_; (case ho => rfl); (case hg => rfl); (case hn => rfl); (case hr => first | (go_simp; done)); intro w27 hw; have hg : wr.grownBy w27 (some go23) := (by rw [hw]; exact HP26.2); have hp_ : Kd.R Kd.bool 4 w27 w.heap.size (fun _ => True) (.slice (some ⟨go23, 0, none⟩) x5_2.length co25) y496 := (by rw [hw, Ny496.out]; exact HP26.1); clear HP26; replace HO_6 := Aside0.mk (Kd.R_over' (v := (.slice (some ⟨go23, 0, none⟩) x5_2.length co25)) HO_6.out (Kd.R_typed HO_5.out) (by decide) hg); replace BK486 := Aside0.mk (blk_grown (g := gb486) (o := .cells #[.slice A0_0 l0_0.length c0_0, .slice A0_1 l0_1.length c0_1] 66 (0, 0)) BK486.out hg (Kd.R_ne HO_5.out BK486.out (by decide))); replace HO_5 := Aside0.mk hp_; replace HB := Aside0.mk ((by rw [hw]; exact below_set (HB.out) GB23.out : Below w.heap.size w w27)); clear hg hw hp_))
                go_roundg k2
                case measure => have := HK1.out; have := HK2.out; omega
                case rel => exact ⟨(y496), (wrap64 (x8_2 + 1)), (by rfl), H', ⟨by have := HK1.out; have := HK2.out; omega⟩, ⟨by exact HO_5.out⟩, ⟨by exact HO_6.out⟩, ⟨by exact BK486.out⟩, ⟨HB.out⟩⟩
               ·rw [if_neg c22] at H
                exact absurd H (by simp)
              ·rw [if_neg c21] at H
               exact absurd H (by simp)
             ·rw [if_neg c19] at H
              exact absurd H (by simp)
           ·rw [if_neg c14] at H
            exact absurd H (by simp)
          ·rw [if_neg c13] at H
           exact absurd H (by simp)
         ·rw [if_neg c12] at H
          have c12b0 : decide (x8_2 < (x6_1.length : Int)) = false := decide_eq_false c12
          clear c12
          have H' := Aside0.mk H
          clear H
          obtain ⟨Ao28, co28, eo28⟩ := Kd.R_slice HO_6.out
          subst eo28
          go_wp2
          go_meet
          case rel => exact ⟨_, (x5_2), H', ⟨by have := HK1.out; have := HK2.out; omega⟩, ⟨by exact HO_5.out⟩, ⟨by exact HO_6.out⟩, ⟨by exact BK486.out⟩, ⟨HB.out⟩⟩
      case rest =>
       clear HC11
       try clear c10b0
       obtain ⟨kq, x5_10, HA, HJ10, HO_5, HO_6, BK486, HB⟩ := hcut
       cases kq with
       | zero => exact absurd HA.out (by simp [spec_l4Star.j2])
       | succ kj10 =>
        have H := HA.out
        clear HA
        simp only [spec_l4Star.j2] at H
        by_cases c29 : x7_1 = 0
        ·rw [if_pos c29] at H
         have c29b0 : (x7_1 == 0) = true := beq_iff_eq.mpr c29
         have c29b1 : (x7_1 != 0) = false := bne_eq_false_iff_eq.mpr c29
         clear c29
         by_cases c30 : 0 < (x5_10.length : Int)
         ·rw [if_pos c30] at H
          have c30b0 : decide (0 < (x5_10.length : Int)) = true := decide_eq_true c30
          have c30b1 : decide (0 < x5_10.length) = true := decide_eq_true (by omega)
          clear c30
          obtain ⟨y497, hy497⟩ : ∃ y_ : List Bool, y_ = (x5_10.set (0 : Int).toNat true) := ⟨_, rfl⟩
          replace H : (spec_l4Star.l0 kj10 a1 y497 x6_1 (wrap64 (x7_1 + 1)) l0_0 l0_1) = some r := by first | (rw [hy497]; with_reducible exact H)
          have Ny497 := Aside0.mk hy497
          clear hy497
          have H' := Aside0.mk H
          clear H
          have p31 : 0 ≤ (0 : Int) := (by omega)
          have q31 : (0 : Int) < ((x5_10.length : Int) : Int) := of_decide_eq_true (by (with_reducible assumption))
          have qi31 : (0 < x5_10.length) = True := eq_true (by omega)
          obtain ⟨go31, co31, eo31, gb31, gl31, cl31, HG31⟩ := Kd.R_form HO_5.out (by omega)
          (cases eo31)
          have GB31 := Aside0.mk gb31
          have GG31 := Aside0.mk HG31
          clear gb31 gl31 HG31
          obtain ⟨hx31_0, hf31_0⟩ := Kd.R_celln false HO_5.out (0 : Int) p31 q31
          (try rw [show ((0 : Int)).toNat = 0 from rfl] at hx31_0)
          (try rw [show ((0 : Int)).toNat = 0 from rfl] at hf31_0)
          replace p31 := eq_true p31
          replace q31 := eq_true q31
          have HP32 := Kd.R_putg HO_5.out (0 : Int) true
          go_wp2_with (first | ((with_reducible refine gate_store (t := 4) (p := 45) rfl ?_); refine store_event (t := 4) (p := 45) (v := ?vo_w33) (w1 := (wc.setCell ⟨go31, (0 : Int).toNat, none⟩ (.bool true))) ?hg ?ho ?hn ?hr ?_; (case ho => rfl); (case hg => rfl); (case hn => rfl); (case hr => first | (go_simp; done)); intro w33 hw; have hg : wc.grownBy w33 (some go31) := (by rw [hw]; exact HP32.2); have hp_ : Kd.R Kd.bool 4 w33 w.heap.size (fun _ => True) (.slice (some ⟨go31, 0, none⟩) x5_10.length co31) y497 := (by rw [hw, Ny497.out]; exact HP32.1); clear HP32; replace HO_6 := Aside0.mk (Kd.R_over' (v := (.slice (some ⟨go31, 0, none⟩) x5_10.length co31)) HO_6.out (Kd.R_typed HO_5.out) (by decide) hg); replace BK486 := Aside0.mk (blk_grown (g := gb486) (o := .cells #[.slice A0_0 l0_0.length c0_0, .slice A0_1 l0_1.length c0_1] 66 (0, 0)) BK486.out hg (Kd.R_ne HO_5.out BK486.out (by decide))); replace HO_5 := Aside0.mk hp_; replace HB := Aside0.mk ((by rw [hw]; exact below_set (HB.out) GB31.out : Below w.heap.size w w33)); clear hg hw hp_))
          go_roundg kj10
          case measure => have := HK1.out; have := HJ10.out; omega
          case rel => exact ⟨(y497), (x6_1), (wrap64 (x7_1 + 1)), (by rfl), H', ⟨by have := HK1.out; have := HJ10.out; omega⟩, ⟨by exact HO_5.out⟩, ⟨by exact HO_6.out⟩, ⟨by exact BK486.out⟩, ⟨HB.out⟩⟩
         ·rw [if_neg c30] at H
          exact absurd H (by simp)
        ·rw [if_neg c29] at H
         have c29b0 : (x7_1 == 0) = false := beq_eq_false_iff_ne.mpr c29
         have c29b1 : (x7_1 != 0) = true := bne_iff_ne.mpr c29
         by_cases c34 : 0 ≤ x7_1
         ·rw [if_pos c34] at H
          have c34b0 : decide (0 ≤ x7_1) = true := decide_eq_true c34
          clear c34
          by_cases c35 : x7_1 < (x5_10.length : Int)
          ·rw [if_pos c35] at H
           have c35b0 : decide (x7_1 < (x5_10.length : Int)) = true := decide_eq_true c35
           clear c35
           obtain ⟨bq36, hbq36⟩ : ∃ b_ : Bool, b_ = (rdOf false x5_10 x7_1) := ⟨_, rfl⟩
           replace H : (if bq36 = true then (spec_l4Star.l0 kj10 a1 x5_10 x6_1 (wrap64 (x7_1 + 1)) l0_0 l0_1) else ((spec_l1Has.f l0_0 l0_1 x7_1).bind fun t499 => (if t499 = true then (if x6_1.length < 17592186044416 then (spec_l4Star.l0 kj10 a1 (x5_10.set (x7_1 : Int).toNat true) (x6_1 ++ [x7_1]) (wrap64 (x7_1 + 1)) l0_0 l0_1) else (none)) else (spec_l4Star.l0 kj10 a1 x5_10 x6_1 (wrap64 (x7_1 + 1)) l0_0 l0_1)))) = some r := by rw [← hbq36] at H; exact H
           have Nbq36 := Aside0.mk hbq36
           clear hbq36
           by_cases c37 : bq36 = true
           ·subst c37
            replace H : (spec_l4Star.l0 kj10 a1 x5_10 x6_1 (wrap64 (x7_1 + 1)) l0_0 l0_1) = some r := by rw [if_pos rfl] at H; exact H
            have H' := Aside0.mk H
            clear H
            obtain ⟨Ao38, co38, eo38⟩ := Kd.R_slice HO_5.out
            subst eo38
            have p498 : 0 ≤ (x7_1 : Int) := of_decide_eq_true (by (with_reducible assumption))
            have q498 : x7_1 < (x5_10.length : Int) := of_decide_eq_true (by (with_reducible assumption))
            obtain ⟨ad498, e498, hx498_0⟩ := Kd.at_bool (Kd.R_reads' HO_5.out).2.2 x7_1 p498 q498
            (try rw [← Nbq36.out] at hx498_0)
            cases e498
            replace p498 := eq_true p498
            replace q498 := eq_true q498
            go_wp2
            go_roundg kj10
            case measure => have := HK1.out; have := HJ10.out; omega
            case rel => exact ⟨(x5_10), (x6_1), (wrap64 (x7_1 + 1)), (by rfl), H', ⟨by have := HK1.out; have := HJ10.out; omega⟩, ⟨by exact HO_5.out⟩, ⟨by exact HO_6.out⟩, ⟨by exact BK486.out⟩, ⟨HB.out⟩⟩
           ·replace c37 := Bool.eq_false_iff.mpr c37
            subst c37
            replace H : ((spec_l1Has.f l0_0 l0_1 x7_1).bind fun t499 => (if t499 = true then (if x6_1.length < 17592186044416 then (spec_l4Star.l0 kj10 a1 (x5_10.set (x7_1 : Int).toNat true) (x6_1 ++ [x7_1]) (wrap64 (x7_1 + 1)) l0_0 l0_1) else (none)) else (spec_l4Star.l0 kj10 a1 x5_10 x6_1 (wrap64 (x7_1 + 1)) l0_0 l0_1))) = some r := by rw [if_neg (show ¬ (false = true) by decide)] at H; exact H
            replace H := Option.bind_eq_some_iff.mp H
            obtain ⟨t499, A390, H⟩ := H
            replace H : (if t499 = true then (if x6_1.length < 17592186044416 then (spec_l4Star.l0 kj10 a1 (x5_10.set (x7_1 : Int).toNat true) (x6_1 ++ [x7_1]) (wrap64 (x7_1 + 1)) l0_0 l0_1) else (none)) else (spec_l4Star.l0 kj10 a1 x5_10 x6_1 (wrap64 (x7_1 + 1)) l0_0 l0_1)) = some r := H
            have A39 := Aside0.mk A390
            clear A390
            by_cases c40 : t499 = true
            ·subst c40
             replace H : (if x6_1.length < 17592186044416 then (spec_l4Star.l0 kj10 a1 (x5_10.set (x7_1 : Int).toNat true) (x6_1 ++ [x7_1]) (wrap64 (x7_1 + 1)) l0_0 l0_1) else (none)) = some r := by rw [if_pos rfl] at H; exact H
             obtain ⟨y500, hy500⟩ : ∃ y_ : List Bool, y_ = (x5_10.set (x7_1 : Int).toNat true) := ⟨_, rfl⟩
             replace H : (if x6_1.length < 17592186044416 then (spec_l4Star.l0 kj10 a1 y500 (x6_1 ++ [x7_1]) (wrap64 (x7_1 + 1)) l0_0 l0_1) else (none)) = some r := by first | (rw [hy500]; with_reducible exact H)
             have Ny500 := Aside0.mk hy500
             clear hy500
             by_cases c42 : x6_1.length < 17592186044416
             ·rw [if_pos c42] at H
              have LMc42 := Aside0.mk c42
              clear c42
              obtain ⟨y501, hy501⟩ : ∃ y_ : List Int, y_ = (x6_1 ++ [x7_1]) := ⟨_, rfl⟩
              replace H : (spec_l4Star.l0 kj10 a1 y500 y501 (wrap64 (x7_1 + 1)) l0_0 l0_1) = some r := by first | (rw [hy501]; with_reducible exact H)
              have Ny501 := Aside0.mk hy501
              clear hy501
              have H' := Aside0.mk H
              clear H
              obtain ⟨Ao43, co43, eo43⟩ := Kd.R_slice HO_5.out
              subst eo43
              have p498 : 0 ≤ (x7_1 : Int) := of_decide_eq_true (by (with_reducible assumption))
              have q498 : x7_1 < (x5_10.length : Int) := of_decide_eq_true (by (with_reducible assumption))
              obtain ⟨ad498, e498, hx498_0⟩ := Kd.at_bool (Kd.R_reads' HO_5.out).2.2 x7_1 p498 q498
              (try rw [← Nbq36.out] at hx498_0)
              cases e498
              replace p498 := eq_true p498
              replace q498 := eq_true q498
              have hcz44_0 : wc.cell? ⟨gb486, 0, none⟩ = some (.slice A0_0 l0_0.length c0_0) := (blk_cell BK486.out 0).trans rfl
              have hcz44_1 : wc.cell? ⟨gb486, 1, none⟩ = some (.slice A0_1 l0_1.length c0_1) := (blk_cell BK486.out 1).trans rfl
              have hfz44_0 := blk_frozen BK486.out 0
              have hfz44_1 := blk_frozen BK486.out 1
              go_wp2_with (first | (go_at_call 67; (with_reducible refine (spec_l1Has.calls _ _ l0_0 _ _ l0_1 x7_1 true _ ?side1 ?side2 ?side3 ?side4 A39.out).mono ?_); (case side1 => repeat (exact (Kd.C_below HR0_0.out HB.out))); (case side2 => exact HC0_0.out); (case side3 => repeat (exact (Kd.C_below HR0_1.out HB.out))); (case side4 => exact HC0_1.out); rintro e w45 ⟨rfl, hb⟩; replace HO_5 := Aside0.mk (Kd.R_below HO_5.out hb); replace HO_6 := Aside0.mk (Kd.R_below HO_6.out hb); replace BK486 := Aside0.mk (blk_below (g := gb486) (o := .cells #[.slice A0_0 l0_0.length c0_0, .slice A0_1 l0_1.length c0_1] 66 (0, 0)) BK486.out hb); replace HB := Aside0.mk (below_step HB.out hb); (try clear hb); have p41 : 0 ≤ (x7_1 : Int) := of_decide_eq_true (by (with_reducible assumption)); have q41 : (x7_1 : Int) < ((x5_10.length : Int) : Int) := of_decide_eq_true (by (with_reducible assumption)); obtain ⟨go41, co41, eo41, gb41, gl41, cl41, HG41⟩ := Kd.R_form HO_5.out (by omega); (cases eo41); have GB41 := Aside0.mk gb41; have GG41 := Aside0.mk HG41; clear gb41 gl41 HG41; (simp only [add_plain] at hx498_0); obtain ⟨hx41_0, hf41_0⟩ := Kd.R_celln false HO_5.out (x7_1 : Int) p41 q41; replace p41 := eq_true p41; replace q41 := eq_true q41; obtain ⟨hy46_, hz46_⟩ := Kd.R_celln false HO_5.out (x7_1 : Int) (of_decide_eq_true (by (with_reducible assumption))) (of_decide_eq_true (by (with_reducible assumption))); have HP46 := Kd.R_putg HO_5.out (x7_1 : Int) true) | ((with_reducible refine gate_store (t := 4) (p := 58) rfl ?_); refine store_event (t := 4) (p := 58) (v := ?vo_w47) (w1 := (w45.setCell ⟨go41, (x7_1 : Int).toNat, none⟩ (.bool true))) ?hg ?ho ?hn ?hr ?_; (case ho => rfl); (case hg => rfl); (case hn => rfl); (case hr => first | (go_simp; done)); intro w47 hw; have hg : w45.grownBy w47 (some go41) := (by rw [hw]; exact HP46.2); have hp_ : Kd.R Kd.bool 4 w47 w.heap.size (fun _ => True) (.slice (some ⟨go41, 0, none⟩) x5_10.length co43) y500 := (by rw [hw, Ny500.out]; exact HP46.1); clear HP46; replace HO_6 := Aside0.mk (Kd.R_over' (v := (.slice (some ⟨go41, 0, none⟩) x5_10.length co43)) HO_6.out (Kd.R_typed HO_5.out) (by decide) hg); replace BK486 := Aside0.mk (blk_grown (g := gb486) (o := .cells #[.slice A0_0 l0_0.length c0_0, .slice A0_1 l0_1.length c0_1] 66 (0, 0)) BK486.out hg (Kd.R_ne HO_5.out BK486.out (by decide))); replace HO_5 := Aside0.mk hp_; replace HB := Aside0.mk ((by rw [hw]; exact below_set (HB.out) GB41.out : Below w.heap.size w w47)); clear hg hw hp_) | ((with_reducible refine gate_builtin (b := .append) (xs := #[.tmp 59, .tmp 61]) rfl ?_); at_builtin; refine Kd.R_append (Kd.int .i64) (w0 := w) w.heap.size rfl (.tmp 59) (.tmp 61) 39 3 (.int .i64 0) 8 rfl Try.underlying39 info3 rfl (by decide) (by omega) u6 x6_1 x7_1 [.int .i64 x7_1] (fun _ => True) (fun _ => False) rfl rfl ?aP (fun _ hk => hk.elim) ?aF ?aO ?aB ?aS ?aL ?_; (case aP => exact rfl); (case aB => exact HB.out); (case aF => exact (fun _ _ => trivial)); (case aO => exact HO_6.out); (case aS => exact (below_size HB.out)); (case aL => have := LMc42.out; omega); intro v502 w48 ho hb hg hat; rw [← Ny501.out] at ho; replace HO_5 := Aside0.mk (Kd.R_over' HO_5.out (Kd.R_typed HO_6.out) (by decide) hg); replace BK486 := Aside0.mk (blk_grown (g := gb486) (o := .cells #[.slice A0_0 l0_0.length c0_0, .slice A0_1 l0_1.length c0_1] 66 (0, 0)) BK486.out hg (Kd.R_ne HO_6.out BK486.out (by decide))); replace HB := Aside0.mk hb; have HO503 := Aside0.mk ho; clear HO_6; clear ho hb hg hat))
              go_roundg kj10
              case measure => have := HK1.out; have := HJ10.out; omega
              case rel => exact ⟨(y500), (y501), (wrap64 (x7_1 + 1)), (by rfl), H', ⟨by have := HK1.out; have := HJ10.out; omega⟩, ⟨by exact HO_5.out⟩, ⟨by exact HO503.out⟩, ⟨by exact BK486.out⟩, ⟨HB.out⟩⟩
             ·rw [if_neg c42] at H
              exact absurd H (by simp)
            ·replace c40 := Bool.eq_false_iff.mpr c40
             subst c40
             replace H : (spec_l4Star.l0 kj10 a1 x5_10 x6_1 (wrap64 (x7_1 + 1)) l0_0 l0_1) = some r := by rw [if_neg (show ¬ (false = true) by decide)] at H; exact H
             have H' := Aside0.mk H
             clear H
             obtain ⟨Ao49, co49, eo49⟩ := Kd.R_slice HO_5.out
             subst eo49
             have p498 : 0 ≤ (x7_1 : Int) := of_decide_eq_true (by (with_reducible assumption))
             have q498 : x7_1 < (x5_10.length : Int) := of_decide_eq_true (by (with_reducible assumption))
             obtain ⟨ad498, e498, hx498_0⟩ := Kd.at_bool (Kd.R_reads' HO_5.out).2.2 x7_1 p498 q498
             (try rw [← Nbq36.out] at hx498_0)
             cases e498
             replace p498 := eq_true p498
             replace q498 := eq_true q498
             have hcz50_0 : wc.cell? ⟨gb486, 0, none⟩ = some (.slice A0_0 l0_0.length c0_0) := (blk_cell BK486.out 0).trans rfl
             have hcz50_1 : wc.cell? ⟨gb486, 1, none⟩ = some (.slice A0_1 l0_1.length c0_1) := (blk_cell BK486.out 1).trans rfl
             have hfz50_0 := blk_frozen BK486.out 0
             have hfz50_1 := blk_frozen BK486.out 1
             go_wp2_with (first | (go_at_call 67; (with_reducible refine (spec_l1Has.calls _ _ l0_0 _ _ l0_1 x7_1 false _ ?side1 ?side2 ?side3 ?side4 A39.out).mono ?_); (case side1 => repeat (exact (Kd.C_below HR0_0.out HB.out))); (case side2 => exact HC0_0.out); (case side3 => repeat (exact (Kd.C_below HR0_1.out HB.out))); (case side4 => exact HC0_1.out); rintro e w51 ⟨rfl, hb⟩; replace HO_5 := Aside0.mk (Kd.R_below HO_5.out hb); replace HO_6 := Aside0.mk (Kd.R_below HO_6.out hb); replace BK486 := Aside0.mk (blk_below (g := gb486) (o := .cells #[.slice A0_0 l0_0.length c0_0, .slice A0_1 l0_1.length c0_1] 66 (0, 0)) BK486.out hb); replace HB := Aside0.mk (below_step HB.out hb); (try clear hb)))
             go_roundg kj10
             case measure => have := HK1.out; have := HJ10.out; omega
             case rel => exact ⟨(x5_10), (x6_1), (wrap64 (x7_1 + 1)), (by rfl), H', ⟨by have := HK1.out; have := HJ10.out; omega⟩, ⟨by exact HO_5.out⟩, ⟨by exact HO_6.out⟩, ⟨by exact BK486.out⟩, ⟨HB.out⟩⟩
          ·rw [if_neg c35] at H
           exact absurd H (by simp)
         ·rw [if_neg c34] at H
          exact absurd H (by simp)
     ·rw [if_neg c10] at H
      have c10b0 : decide (x7_1 < a1) = false := decide_eq_false c10
      clear c10
      obtain rfl := Option.some.inj H
      go_wp2
      go_ret
      exact ⟨_, by first | rfl | (simp [*, errW_none, errW_some] <;> rfl), by exact HO_5.out, HB.out⟩
  ·rw [if_neg c4] at H
   exact absurd H (by simp)
 ·rw [if_neg c3] at H
  exact absurd H (by simp)


def spec_l1Bit.f (a0 : Bool) : Option (Int) := if a0 = true then (some 1) else (some 0)
set_option maxHeartbeats 8000000 in
set_option maxRecDepth 100000 in
theorem spec_l1Bit.calls (a0 : Bool) (r : Int) (w : World) (h : spec_l1Bit.f a0 = some r) :
  Calls Try.prog 91 #[.bool a0] w fun e w' => e = .returned (.int .i64 r) ∧ Drawn0 w w' := by
 have H : (if a0 = true then (some 1) else (some 0)) = some r := h
 clear h
 by_cases c2 : a0 = true
 ·subst c2
  replace H : (some 1) = some r := by rw [if_pos rfl] at H; exact H
  obtain rfl := Option.some.inj H
  go_enter Try.func91, Try.ntmps91
  go_wp2
  go_ret
  exact ⟨by first | rfl | (simp [*]; done), by repeat (exact Drawn0.refl _)⟩
 ·replace c2 := Bool.eq_false_iff.mpr c2
  subst c2
  replace H : (some 0) = some r := by rw [if_neg (show ¬ (false = true) by decide)] at H; exact H
  obtain rfl := Option.some.inj H
  go_enter Try.func91, Try.ntmps91
  go_wp2
  go_ret
  exact ⟨by first | rfl | (simp [*]; done), by repeat (exact Drawn0.refl _)⟩


mutual
def spec_l1Write.l0 : Nat → List Int → Int → List Bool → List Bool → Option (ByteArray)
 | 0, _, _, _, _ => none
 | k + 1, x3, x4, x505000, x505001 => if x4 < (x505000.length : Int) then (if 0 ≤ x4 then ((spec_l1Bit.f (rdOf false x505000 x4)).bind fun t509 => (if 0 ≤ t509 then (if t509 < 2 then (if x3.length < 140737488355328 then (spec_l1Write.l0 k (x3 ++ [bt (⟨#[48, 49]⟩ : ByteArray) t509]) (wrap64 (x4 + 1)) x505000 x505001) else (none)) else (none)) else (none))) else (none)) else (if x3.length < 140737488355328 then (spec_l1Write.l1 k (x3 ++ [40]) 0 x505000 x505001) else (none))
def spec_l1Write.l1 : Nat → List Int → Int → List Bool → List Bool → Option (ByteArray)
 | 0, _, _, _, _ => none
 | k + 1, x3, x5, x505000, x505001 => if x5 < (x505001.length : Int) then (if 0 ≤ x5 then ((spec_l1Bit.f (rdOf false x505001 x5)).bind fun t517 => (if 0 ≤ t517 then (if t517 < 2 then (if x3.length < 140737488355328 then (spec_l1Write.l1 k (x3 ++ [bt (⟨#[48, 49]⟩ : ByteArray) t517]) (wrap64 (x5 + 1)) x505000 x505001) else (none)) else (none)) else (none))) else (none)) else (if x3.length < 140737488355328 then (some (strOfNums (x3 ++ [41]))) else (none))
end
def spec_l1Write.f (k : Nat) (l0_0 : List Bool) (l0_1 : List Bool) : Option (ByteArray) := spec_l1Write.l0 k (([] : List Int)) 0 l0_0 l0_1
theorem spec_l1Write.mono_l : ∀ k, (∀ y0 y1 y2 y3, LeO (spec_l1Write.l0 k y0 y1 y2 y3) (spec_l1Write.l0 (k + 1) y0 y1 y2 y3)) ∧ (∀ y0 y1 y2 y3, LeO (spec_l1Write.l1 k y0 y1 y2 y3) (spec_l1Write.l1 (k + 1) y0 y1 y2 y3))
 | 0 => ⟨fun _ _ _ _ r h => by simp [spec_l1Write.l0] at h, fun _ _ _ _ r h => by simp [spec_l1Write.l1] at h⟩
 | k + 1 => by
  obtain ⟨ih0, ih1⟩ := spec_l1Write.mono_l k
  refine ⟨?_, ?_⟩
  ·intro y0 y1 y2 y3
   unfold spec_l1Write.l0
   repeat' first | (with_reducible exact ih0 _ _ _ _) | (with_reducible exact ih1 _ _ _ _) | (with_reducible exact LeO.refl _) | (with_reducible refine LeO.ite ?_ ?_) | (with_reducible refine LeO.bind ?_ (fun _ => ?_))
  ·intro y0 y1 y2 y3
   unfold spec_l1Write.l1
   repeat' first | (with_reducible exact ih1 _ _ _ _) | (with_reducible exact LeO.refl _) | (with_reducible refine LeO.ite ?_ ?_) | (with_reducible refine LeO.bind ?_ (fun _ => ?_))
theorem spec_l1Write.mono : ∀ a0 a1 k, LeO (spec_l1Write.f k a0 a1) (spec_l1Write.f (k + 1) a0 a1) := by
 intro a0 a1 k
 obtain ⟨ih0, ih1⟩ := spec_l1Write.mono_l k
 unfold spec_l1Write.f
 repeat' (with_reducible exact ih0 _ _ _ _)
set_option maxHeartbeats 8000000 in
set_option maxRecDepth 100000 in
theorem spec_l1Write.calls (k : Nat) (A0_0 : Option Addr) (c0_0 : Nat) (l0_0 : List Bool) (A0_1 : Option Addr) (c0_1 : Nat) (l0_1 : List Bool) (r : ByteArray) (w : World) (hr0_0 : Kd.C Kd.bool w A0_0 l0_0.length l0_0) (hc0_0 : l0_0.length ≤ c0_0) (hr0_1 : Kd.C Kd.bool w A0_1 l0_1.length l0_1) (hc0_1 : l0_1.length ≤ c0_1) (h : spec_l1Write.f k l0_0 l0_1 = some r) :
  Calls Try.prog 110 #[.agg #[.slice A0_0 l0_0.length c0_0, .slice A0_1 l0_1.length c0_1]] w fun e w' => e = .returned (.string r) ∧ Below w.heap.size w w' := by
 have hu66 := Try.underlying66
 have HR0_0 := Aside0.mk hr0_0
 have HC0_0 := Aside0.mk hc0_0
 clear hr0_0 hc0_0
 have HR0_1 := Aside0.mk hr0_1
 have HC0_1 := Aside0.mk hc0_1
 clear hr0_1 hc0_1
 have HB := Aside0.mk (Below.refl w.heap.size w)
 have H : (spec_l1Write.l0 k (([] : List Int)) 0 l0_0 l0_1) = some r := h
 clear h
 obtain ⟨y505, hy505⟩ : ∃ y_ : List Int, y_ = (([] : List Int)) := ⟨_, rfl⟩
 replace H : (spec_l1Write.l0 k y505 0 l0_0 l0_1) = some r := by first | (rw [hy505]; with_reducible exact H)
 have Ny505 := Aside0.mk hy505
 clear hy505
 have H' := Aside0.mk H
 clear H
 go_enter Try.func110, Try.ntmps110
 go_wp2_with (first | ((with_reducible refine gate_dst (N := 1) rfl ?_); refine box_event ?hg (N := 1) ?hd (cs := #[.slice A0_0 l0_0.length c0_0, .slice A0_1 l0_1.length c0_1]) (t := 66) ?hr ?_; (case hd => rfl); (case hg => rfl); (case hr => first | (go_simp; done)); intro gb504 hg w2 hbox hb; have BK504 := Aside0.mk hbox; have GW504 := Aside0.mk ((by rw [hg]; exact (below_size HB.out) : w.heap.size ≤ gb504)); have GE504 := Aside0.mk ((by rw [hg]; exact (below_size HB.out) : w.heap.size ≤ gb504)); replace HB := Aside0.mk (below_step HB.out hb); clear hb hbox hg) | ((with_reducible refine gate_dst (N := 6) rfl ?_); refine Kd.R_lit (Kd.int .u8) _ 5 ?hg (N := 6) ?hd (xs := ([] : List Int)) (inner := []) (ok := fun _ => True) (okp := fun _ => True) ?hr ?hp (fun _ hk => hk) trivial (Below.refl _ _) (Nat.le_refl _) (by simp) ?_; (case hd => rfl); (case hg => rfl); (case hr => first | (go_simp; done)); (case hp => exact (Reps.none _ _)); intro v506 w3 ho4 hb hg_ hnew_; clear hg_ hnew_; (rw [← Ny505.out] at ho4); have HO507 := Aside0.mk (Kd.R_lower ho4 (below_size HB.out)); replace BK504 := Aside0.mk (blk_below (g := gb504) (o := .cells #[.slice A0_0 l0_0.length c0_0, .slice A0_1 l0_1.length c0_1] 66 (0, 0)) BK504.out hb); replace HB := Aside0.mk (below_step HB.out hb); clear hb ho4))
 go_loopg [3, 4] k (fun kq v3 v4 w' => ∃ (x3_1 : List Int) (x4_1 : Int), v4 = .int .i64 x4_1 ∧ Aside0 (spec_l1Write.l0 kq x3_1 x4_1 l0_0 l0_1 = some r) ∧ Aside0 (kq ≤ k) ∧ Aside0 (Kd.R (Kd.int .u8) 5 w' w.heap.size (fun _ => True) v3 x3_1) ∧ Aside0 (w'.heap[gb504]? = some (.cells #[(.slice A0_0 l0_0.length c0_0), (.slice A0_1 l0_1.length c0_1)] 66 (0, 0))) ∧ Aside0 (Below w.heap.size w w'))
 case atStart => exact ⟨(y505), (0), (by rfl), H', ⟨Nat.le_refl _⟩, ⟨by exact HO507.out⟩, ⟨by exact BK504.out⟩, ⟨HB.out⟩⟩
 case round =>
  clear H'
  obtain ⟨x3_1, x4_1, rfl, HA, HK1, HO_3, BK504, HB⟩ := hrel
  cases gk with
  | zero => exact absurd HA.out (by simp [spec_l1Write.l0])
  | succ k1 =>
   have H := HA.out
   clear HA
   simp only [spec_l1Write.l0] at H
   by_cases c5 : x4_1 < (l0_0.length : Int)
   ·rw [if_pos c5] at H
    have c5b0 : decide (x4_1 < (l0_0.length : Int)) = true := decide_eq_true c5
    clear c5
    by_cases c6 : 0 ≤ x4_1
    ·rw [if_pos c6] at H
     have c6b0 : decide (0 ≤ x4_1) = true := decide_eq_true c6
     clear c6
     replace H := Option.bind_eq_some_iff.mp H
     obtain ⟨t509, A70, H⟩ := H
     replace H : (if 0 ≤ t509 then (if t509 < 2 then (if x3_1.length < 140737488355328 then (spec_l1Write.l0 k1 (x3_1 ++ [bt (⟨#[48, 49]⟩ : ByteArray) t509]) (wrap64 (x4_1 + 1)) l0_0 l0_1) else (none)) else (none)) else (none)) = some r := H
     have A7 := Aside0.mk A70
     clear A70
     by_cases c8 : 0 ≤ t509
     ·rw [if_pos c8] at H
      have c8b0 : decide (0 ≤ t509) = true := decide_eq_true c8
      clear c8
      by_cases c9 : t509 < 2
      ·rw [if_pos c9] at H
       have c9b0 : decide (t509 < 2) = true := decide_eq_true c9
       clear c9
       by_cases c11 : x3_1.length < 140737488355328
       ·rw [if_pos c11] at H
        have LMc11 := Aside0.mk c11
        clear c11
        obtain ⟨y510, hy510⟩ : ∃ y_ : List Int, y_ = (x3_1 ++ [bt (⟨#[48, 49]⟩ : ByteArray) t509]) := ⟨_, rfl⟩
        replace H : (spec_l1Write.l0 k1 y510 (wrap64 (x4_1 + 1)) l0_0 l0_1) = some r := by first | (rw [hy510]; with_reducible exact H)
        have Ny510 := Aside0.mk hy510
        clear hy510
        have H' := Aside0.mk H
        clear H
        have hcz12_0 : wr.cell? ⟨gb504, 0, none⟩ = some (.slice A0_0 l0_0.length c0_0) := (blk_cell BK504.out 0).trans rfl
        have hcz12_1 : wr.cell? ⟨gb504, 1, none⟩ = some (.slice A0_1 l0_1.length c0_1) := (blk_cell BK504.out 1).trans rfl
        have hfz12_0 := blk_frozen BK504.out 0
        have hfz12_1 := blk_frozen BK504.out 1
        have p508 : 0 ≤ (x4_1 : Int) := of_decide_eq_true (by (with_reducible assumption))
        have q508 : x4_1 < (l0_0.length : Int) := of_decide_eq_true (by (with_reducible assumption))
        obtain ⟨ad508, e508, hx508_0⟩ := Kd.at_bool HR0_0.out x4_1 p508 q508
        cases e508
        replace hx508_0 := (HB.out.cell (World.block_lt_of_cell? w _ hx508_0)).trans hx508_0
        replace p508 := eq_true p508
        replace q508 := eq_true q508
        go_wp2_with (first | ((with_reducible refine gate_callee (f := 91) rfl ?_); refine goesL_ (some 20) rfl rfl Try.func91 (by kernel_rfl) rfl #[.bool (rdOf false l0_0 x4_1)] rfl (by (try simp only [List.map_toArray, List.map_cons, List.map_nil]); rfl) ?_; (with_reducible refine (spec_l1Bit.calls (rdOf false l0_0 x4_1) t509 _ A7.out).mono ?_); rintro e w' ⟨rfl, ⟨nd, rfl⟩⟩; refine ⟨_, rfl, ?_⟩; have p10 : 0 ≤ (t509 : Int) := of_decide_eq_true (by (with_reducible assumption)); have q10 : t509 < (2 : Int) := of_decide_eq_true (by (with_reducible assumption)); have hx10 := bt_at (⟨#[48, 49]⟩ : ByteArray) t509; replace p10 := eq_true p10; replace q10 := eq_true q10) | ((with_reducible refine gate_builtin (b := .append) (xs := #[.tmp 14, .tmp 22]) rfl ?_); at_builtin; refine Kd.R_append (Kd.int .u8) (w0 := w) w.heap.size rfl (.tmp 14) (.tmp 22) 22 5 (.int .u8 0) 1 rfl Try.underlying22 info5 rfl (by decide) (by omega) u3 x3_1 (bt (⟨#[48, 49]⟩ : ByteArray) t509) [.int .u8 (bt (⟨#[48, 49]⟩ : ByteArray) t509)] (fun _ => True) (fun _ => False) rfl rfl ?aP (fun _ hk => hk.elim) ?aF ?aO ?aB ?aS ?aL ?_; (case aP => exact rfl); (case aB => exact (by repeat (first | (with_reducible first | exact HB.out | apply pw_below_drewN)))); (case aF => exact (fun _ _ => trivial)); (case aO => exact (by (with_reducible repeat (apply Kd.R_drewN)); exact HO_3.out)); (case aS => exact (below_size (by repeat (first | (with_reducible first | exact HB.out | apply pw_below_drewN))))); (case aL => have := LMc11.out; omega); intro v511 w13 ho hb hg hat; rw [← Ny510.out] at ho; replace BK504 := Aside0.mk (blk_grown (g := gb504) (o := .cells #[.slice (some ad508) l0_0.length c0_0, .slice A0_1 l0_1.length c0_1] 66 (0, 0)) (by (with_reducible repeat (refine blk_drewN ?_ _)); exact BK504.out) hg (Kd.R_ne HO_3.out BK504.out (by decide))); replace HB := Aside0.mk hb; have HO512 := Aside0.mk ho; clear HO_3; clear ho hb hg hat))
        go_roundg k1
        case measure => have := HK1.out; omega
        case rel => exact ⟨(y510), (wrap64 (x4_1 + 1)), (by rfl), H', ⟨by have := HK1.out; omega⟩, ⟨by exact HO512.out⟩, ⟨by exact BK504.out⟩, ⟨HB.out⟩⟩
       ·rw [if_neg c11] at H
        exact absurd H (by simp)
      ·rw [if_neg c9] at H
       exact absurd H (by simp)
     ·rw [if_neg c8] at H
      exact absurd H (by simp)
    ·rw [if_neg c6] at H
     exact absurd H (by simp)
   ·rw [if_neg c5] at H
    have c5b0 : decide (x4_1 < (l0_0.length : Int)) = false := decide_eq_false c5
    clear c5
    by_cases c14 : x3_1.length < 140737488355328
    ·rw [if_pos c14] at H
     have LMc14 := Aside0.mk c14
     clear c14
     obtain ⟨y513, hy513⟩ : ∃ y_ : List Int, y_ = (x3_1 ++ [40]) := ⟨_, rfl⟩
     replace H : (spec_l1Write.l1 k1 y513 0 l0_0 l0_1) = some r := by first | (rw [hy513]; with_reducible exact H)
     have Ny513 := Aside0.mk hy513
     clear hy513
     have H' := Aside0.mk H
     clear H
     have hcz15_0 : wr.cell? ⟨gb504, 0, none⟩ = some (.slice A0_0 l0_0.length c0_0) := (blk_cell BK504.out 0).trans rfl
     have hcz15_1 : wr.cell? ⟨gb504, 1, none⟩ = some (.slice A0_1 l0_1.length c0_1) := (blk_cell BK504.out 1).trans rfl
     have hfz15_0 := blk_frozen BK504.out 0
     have hfz15_1 := blk_frozen BK504.out 1
     go_wp2_with (first | ((with_reducible refine gate_builtin (b := .append) (xs := #[.tmp 24, .tmp 25]) rfl ?_); at_builtin; refine Kd.R_append (Kd.int .u8) (w0 := w) w.heap.size rfl (.tmp 24) (.tmp 25) 22 5 (.int .u8 0) 1 rfl Try.underlying22 info5 rfl (by decide) (by omega) u3 x3_1 40 [.int .u8 40] (fun _ => True) (fun _ => False) rfl rfl ?aP (fun _ hk => hk.elim) ?aF ?aO ?aB ?aS ?aL ?_; (case aP => exact rfl); (case aB => exact HB.out); (case aF => exact (fun _ _ => trivial)); (case aO => exact HO_3.out); (case aS => exact (below_size HB.out)); (case aL => have := LMc14.out; omega); intro v514 w16 ho hb hg hat; rw [← Ny513.out] at ho; replace BK504 := Aside0.mk (blk_grown (g := gb504) (o := .cells #[.slice A0_0 l0_0.length c0_0, .slice A0_1 l0_1.length c0_1] 66 (0, 0)) BK504.out hg (Kd.R_ne HO_3.out BK504.out (by decide))); replace HB := Aside0.mk hb; have HO515 := Aside0.mk ho; clear HO_3; clear ho hb hg hat))
     go_loopg [3, 5] k1 (fun kq v3 v5 w' => ∃ (x3_2 : List Int) (x5_2 : Int), v5 = .int .i64 x5_2 ∧ Aside0 (spec_l1Write.l1 kq x3_2 x5_2 l0_0 l0_1 = some r) ∧ Aside0 (kq ≤ k1) ∧ Aside0 (Kd.R (Kd.int .u8) 5 w' w.heap.size (fun _ => True) v3 x3_2) ∧ Aside0 (w'.heap[gb504]? = some (.cells #[(.slice A0_0 l0_0.length c0_0), (.slice A0_1 l0_1.length c0_1)] 66 (0, 0))) ∧ Aside0 (Below w.heap.size w w'))
     case atStart => exact ⟨(y513), (0), (by rfl), H', ⟨Nat.le_refl _⟩, ⟨by exact HO515.out⟩, ⟨by exact BK504.out⟩, ⟨HB.out⟩⟩
     case round =>
      clear H'
      try clear c5b0
      try clear hcz15_0
      try clear hcz15_1
      try clear hfz15_0
      try clear hfz15_1
      obtain ⟨x3_2, x5_2, rfl, HA, HK2, HO_3, BK504, HB⟩ := hrel
      cases gk with
      | zero => exact absurd HA.out (by simp [spec_l1Write.l1])
      | succ k2 =>
       have H := HA.out
       clear HA
       simp only [spec_l1Write.l1] at H
       by_cases c17 : x5_2 < (l0_1.length : Int)
       ·rw [if_pos c17] at H
        have c17b0 : decide (x5_2 < (l0_1.length : Int)) = true := decide_eq_true c17
        clear c17
        by_cases c18 : 0 ≤ x5_2
        ·rw [if_pos c18] at H
         have c18b0 : decide (0 ≤ x5_2) = true := decide_eq_true c18
         clear c18
         replace H := Option.bind_eq_some_iff.mp H
         obtain ⟨t517, A190, H⟩ := H
         replace H : (if 0 ≤ t517 then (if t517 < 2 then (if x3_2.length < 140737488355328 then (spec_l1Write.l1 k2 (x3_2 ++ [bt (⟨#[48, 49]⟩ : ByteArray) t517]) (wrap64 (x5_2 + 1)) l0_0 l0_1) else (none)) else (none)) else (none)) = some r := H
         have A19 := Aside0.mk A190
         clear A190
         by_cases c20 : 0 ≤ t517
         ·rw [if_pos c20] at H
          have c20b0 : decide (0 ≤ t517) = true := decide_eq_true c20
          clear c20
          by_cases c21 : t517 < 2
          ·rw [if_pos c21] at H
           have c21b0 : decide (t517 < 2) = true := decide_eq_true c21
           clear c21
           by_cases c23 : x3_2.length < 140737488355328
           ·rw [if_pos c23] at H
            have LMc23 := Aside0.mk c23
            clear c23
            obtain ⟨y518, hy518⟩ : ∃ y_ : List Int, y_ = (x3_2 ++ [bt (⟨#[48, 49]⟩ : ByteArray) t517]) := ⟨_, rfl⟩
            replace H : (spec_l1Write.l1 k2 y518 (wrap64 (x5_2 + 1)) l0_0 l0_1) = some r := by first | (rw [hy518]; with_reducible exact H)
            have Ny518 := Aside0.mk hy518
            clear hy518
            have H' := Aside0.mk H
            clear H
            have hcz24_0 : wr.cell? ⟨gb504, 0, none⟩ = some (.slice A0_0 l0_0.length c0_0) := (blk_cell BK504.out 0).trans rfl
            have hcz24_1 : wr.cell? ⟨gb504, 1, none⟩ = some (.slice A0_1 l0_1.length c0_1) := (blk_cell BK504.out 1).trans rfl
            have hfz24_0 := blk_frozen BK504.out 0
            have hfz24_1 := blk_frozen BK504.out 1
            have p516 : 0 ≤ (x5_2 : Int) := of_decide_eq_true (by (with_reducible assumption))
            have q516 : x5_2 < (l0_1.length : Int) := of_decide_eq_true (by (with_reducible assumption))
            obtain ⟨ad516, e516, hx516_0⟩ := Kd.at_bool HR0_1.out x5_2 p516 q516
            cases e516
            replace hx516_0 := (HB.out.cell (World.block_lt_of_cell? w _ hx516_0)).trans hx516_0
            replace p516 := eq_true p516
            replace q516 := eq_true q516
            go_wp2_with (first | ((with_reducible refine gate_callee (f := 91) rfl ?_); refine goesL_ (some 40) rfl rfl Try.func91 (by kernel_rfl) rfl #[.bool (rdOf false l0_1 x5_2)] rfl (by (try simp only [List.map_toArray, List.map_cons, List.map_nil]); rfl) ?_; (with_reducible refine (spec_l1Bit.calls (rdOf false l0_1 x5_2) t517 _ A19.out).mono ?_); rintro e w' ⟨rfl, ⟨nd, rfl⟩⟩; refine ⟨_, rfl, ?_⟩; have p22 : 0 ≤ (t517 : Int) := of_decide_eq_true (by (with_reducible assumption)); have q22 : t517 < (2 : Int) := of_decide_eq_true (by (with_reducible assumption)); have hx22 := bt_at (⟨#[48, 49]⟩ : ByteArray) t517; replace p22 := eq_true p22; replace q22 := eq_true q22) | ((with_reducible refine gate_builtin (b := .append) (xs := #[.tmp 34, .tmp 42]) rfl ?_); at_builtin; refine Kd.R_append (Kd.int .u8) (w0 := w) w.heap.size rfl (.tmp 34) (.tmp 42) 22 5 (.int .u8 0) 1 rfl Try.underlying22 info5 rfl (by decide) (by omega) u3 x3_2 (bt (⟨#[48, 49]⟩ : ByteArray) t517) [.int .u8 (bt (⟨#[48, 49]⟩ : ByteArray) t517)] (fun _ => True) (fun _ => False) rfl rfl ?aP (fun _ hk => hk.elim) ?aF ?aO ?aB ?aS ?aL ?_; (case aP => exact rfl); (case aB => exact (by repeat (first | (with_reducible first | exact HB.out | apply pw_below_drewN)))); (case aF => exact (fun _ _ => trivial)); (case aO => exact (by (with_reducible repeat (apply Kd.R_drewN)); exact HO_3.out)); (case aS => exact (below_size (by repeat (first | (with_reducible first | exact HB.out | apply pw_below_drewN))))); (case aL => have := LMc23.out; omega); intro v519 w25 ho hb hg hat; rw [← Ny518.out] at ho; replace BK504 := Aside0.mk (blk_grown (g := gb504) (o := .cells #[.slice A0_0 l0_0.length c0_0, .slice (some ad516) l0_1.length c0_1] 66 (0, 0)) (by (with_reducible repeat (refine blk_drewN ?_ _)); exact BK504.out) hg (Kd.R_ne HO_3.out BK504.out (by decide))); replace HB := Aside0.mk hb; have HO520 := Aside0.mk ho; clear HO_3; clear ho hb hg hat))
            go_roundg k2
            case measure => have := HK1.out; have := HK2.out; omega
            case rel => exact ⟨(y518), (wrap64 (x5_2 + 1)), (by rfl), H', ⟨by have := HK1.out; have := HK2.out; omega⟩, ⟨by exact HO520.out⟩, ⟨by exact BK504.out⟩, ⟨HB.out⟩⟩
           ·rw [if_neg c23] at H
            exact absurd H (by simp)
          ·rw [if_neg c21] at H
           exact absurd H (by simp)
         ·rw [if_neg c20] at H
          exact absurd H (by simp)
        ·rw [if_neg c18] at H
         exact absurd H (by simp)
       ·rw [if_neg c17] at H
        have c17b0 : decide (x5_2 < (l0_1.length : Int)) = false := decide_eq_false c17
        clear c17
        by_cases c26 : x3_2.length < 140737488355328
        ·rw [if_pos c26] at H
         have LMc26 := Aside0.mk c26
         clear c26
         obtain ⟨y521, hy521⟩ : ∃ y_ : List Int, y_ = (x3_2 ++ [41]) := ⟨_, rfl⟩
         replace H : (some (strOfNums y521)) = some r := by first | (rw [hy521]; with_reducible exact H)
         have Ny521 := Aside0.mk hy521
         clear hy521
         obtain rfl := Option.some.inj H
         have hcz27_0 : wr.cell? ⟨gb504, 0, none⟩ = some (.slice A0_0 l0_0.length c0_0) := (blk_cell BK504.out 0).trans rfl
         have hcz27_1 : wr.cell? ⟨gb504, 1, none⟩ = some (.slice A0_1 l0_1.length c0_1) := (blk_cell BK504.out 1).trans rfl
         have hfz27_0 := blk_frozen BK504.out 0
         have hfz27_1 := blk_frozen BK504.out 1
         go_wp2_with (first | ((with_reducible refine gate_builtin (b := .append) (xs := #[.tmp 44, .tmp 45]) rfl ?_); at_builtin; refine Kd.R_append (Kd.int .u8) (w0 := w) w.heap.size rfl (.tmp 44) (.tmp 45) 22 5 (.int .u8 0) 1 rfl Try.underlying22 info5 rfl (by decide) (by omega) u3 x3_2 41 [.int .u8 41] (fun _ => True) (fun _ => False) rfl rfl ?aP (fun _ hk => hk.elim) ?aF ?aO ?aB ?aS ?aL ?_; (case aP => exact rfl); (case aB => exact HB.out); (case aF => exact (fun _ _ => trivial)); (case aO => exact HO_3.out); (case aS => exact (below_size HB.out)); (case aL => have := LMc26.out; omega); intro v522 w28 ho hb hg hat; rw [← Ny521.out] at ho; replace BK504 := Aside0.mk (blk_grown (g := gb504) (o := .cells #[.slice A0_0 l0_0.length c0_0, .slice A0_1 l0_1.length c0_1] 66 (0, 0)) BK504.out hg (Kd.R_ne HO_3.out BK504.out (by decide))); replace HB := Aside0.mk hb; have HO523 := Aside0.mk ho; clear HO_3; clear ho hb hg hat; have hcv29 := own_string (P := Try.prog) Try.underlying22 Try.underlying5 Try.underlying9 (Kd.own_of_R HO523.out)))
         go_ret
         exact ⟨by first | rfl | (simp [*, errW_none, errW_some] <;> rfl), HB.out⟩
        ·rw [if_neg c26] at H
         exact absurd H (by simp)
    ·rw [if_neg c14] at H
     exact absurd H (by simp)


def spec_l1Done.f (k : Nat) (l0_0 : List Bool) (l0_1 : List Bool) : Option (ByteArray × Bool) := (spec_l1Less.f k l0_0 l0_1).bind fun bt525 => (if (bt525.1.length : Int) > 60 then (some ((⟨#[]⟩ : ByteArray), false)) else (if (bt525.2.length : Int) > 60 then (some ((⟨#[]⟩ : ByteArray), false)) else ((spec_l1Write.f k bt525.1 bt525.2).bind fun t532 => (some (t532, true)))))
theorem spec_l1Done.mono : ∀ a0 a1 k, LeO (spec_l1Done.f k a0 a1) (spec_l1Done.f (k + 1) a0 a1) := by
 intro a0 a1 k
 unfold spec_l1Done.f
 repeat' first | (with_reducible exact spec_l1Less.mono _ _ _) | (with_reducible exact spec_l1Write.mono _ _ _) | (with_reducible exact LeO.refl _) | (with_reducible refine LeO.ite ?_ ?_) | (with_reducible refine LeO.bind ?_ (fun _ => ?_))
set_option maxHeartbeats 8000000 in
set_option maxRecDepth 100000 in
theorem spec_l1Done.calls (k : Nat) (A0_0 : Option Addr) (c0_0 : Nat) (l0_0 : List Bool) (A0_1 : Option Addr) (c0_1 : Nat) (l0_1 : List Bool) (r1 : ByteArray) (r2 : Bool) (w : World) (hr0_0 : Kd.C Kd.bool w A0_0 l0_0.length l0_0) (hc0_0 : l0_0.length ≤ c0_0) (hr0_1 : Kd.C Kd.bool w A0_1 l0_1.length l0_1) (hc0_1 : l0_1.length ≤ c0_1) (h : spec_l1Done.f k l0_0 l0_1 = some (r1, r2)) :
  Calls Try.prog 75 #[.agg #[.slice A0_0 l0_0.length c0_0, .slice A0_1 l0_1.length c0_1]] w fun e w' => e = .returned (.tuple #[.string r1, .bool r2]) ∧ Below w.heap.size w w' := by
 have hu66 := Try.underlying66
 have HR0_0 := Aside0.mk hr0_0
 have HC0_0 := Aside0.mk hc0_0
 clear hr0_0 hc0_0
 have HR0_1 := Aside0.mk hr0_1
 have HC0_1 := Aside0.mk hc0_1
 clear hr0_1 hc0_1
 have HB := Aside0.mk (Below.refl w.heap.size w)
 have H : ((spec_l1Less.f k l0_0 l0_1).bind fun bt525 => (if (bt525.1.length : Int) > 60 then (some ((⟨#[]⟩ : ByteArray), false)) else (if (bt525.2.length : Int) > 60 then (some ((⟨#[]⟩ : ByteArray), false)) else ((spec_l1Write.f k bt525.1 bt525.2).bind fun t532 => (some (t532, true)))))) = some (r1, r2) := h
 clear h
 replace H := Option.bind_eq_some_iff.mp H
 obtain ⟨⟨t525, t528⟩, A20, H⟩ := H
 replace H : (if (t525.length : Int) > 60 then (some ((⟨#[]⟩ : ByteArray), false)) else (if (t528.length : Int) > 60 then (some ((⟨#[]⟩ : ByteArray), false)) else ((spec_l1Write.f k t525 t528).bind fun t532 => (some (t532, true))))) = some (r1, r2) := H
 have A2 := Aside0.mk A20
 clear A20
 by_cases c3 : (t525.length : Int) > 60
 ·rw [if_pos c3] at H
  have c3b0 : decide (60 < (t525.length : Int)) = true := decide_eq_true c3
  have c3b1 : decide (60 < t525.length) = true := decide_eq_true (by omega)
  clear c3
  simp only [Option.some.injEq, Prod.mk.injEq] at H
  obtain ⟨rfl, rfl⟩ := H
  go_enter Try.func75, Try.ntmps75
  go_wp2_with (first | ((with_reducible refine gate_dst (N := 1) rfl ?_); (try (refine gate_guard (by rfl) ?_; dsimp only)); refine box_event ?hg (N := 1) ?hd (cs := #[.slice A0_0 l0_0.length c0_0, .slice A0_1 l0_1.length c0_1]) (t := 66) ?hr ?_; (case hd => rfl); (case hg => rfl); (case hr => first | (go_simp; done)); intro gb524 hg w4 hbox hb; have BK524 := Aside0.mk hbox; have GW524 := Aside0.mk ((by rw [hg]; exact (below_size HB.out) : w.heap.size ≤ gb524)); have GE524 := Aside0.mk ((by rw [hg]; exact (below_size HB.out) : w.heap.size ≤ gb524)); replace HB := Aside0.mk (below_step HB.out hb); clear hb hbox hg; have hcz5_0 : w4.cell? ⟨gb524, 0, none⟩ = some (.slice A0_0 l0_0.length c0_0) := (blk_cell BK524.out 0).trans rfl; have hcz5_1 : w4.cell? ⟨gb524, 1, none⟩ = some (.slice A0_1 l0_1.length c0_1) := (blk_cell BK524.out 1).trans rfl; have hfz5_0 := blk_frozen BK524.out 0; have hfz5_1 := blk_frozen BK524.out 1) | ((with_reducible refine gate_callee (f := 90) rfl ?_); refine goesL_ (some 6) rfl rfl Try.func90 (by kernel_rfl) rfl #[.agg #[.slice A0_0 l0_0.length c0_0, .slice A0_1 l0_1.length c0_1]] rfl (by (try simp only [List.map_toArray, List.map_cons, List.map_nil]); rfl) ?_; (with_reducible refine (spec_l1Less.calls k (fun k_ => k_ < w.heap.size) _ _ l0_0 (fun k_ => k_ < w.heap.size) _ _ l0_1 t525 t528 _ ?side1 ?side2 A2.out).mono ?_); (case side1 => exact Kd.V_mk HC0_0.out (Kd.F_below (Kd.C_F Kd.heap_bool HR0_0.out) HB.out)); (case side2 => exact Kd.V_mk HC0_1.out (Kd.F_below (Kd.C_F Kd.heap_bool HR0_1.out) HB.out)); rintro e w6 ⟨v526, v529, rfl, ho0, ho1, hb⟩; refine ⟨_, rfl, ?_⟩; have HO527 := Aside0.mk (Kd.V_lower (Kd.V_mono (ok' := fun k_ => k_ ≠ gb524) ho0 (fun k_ hk_ => Or.elim hk_ (fun hs_ => Or.elim hs_ (fun hs_ => fun e_ => Nat.not_le.2 hs_ (by rw [e_]; exact GW524.out)) (fun hs_ => fun e_ => Nat.not_le.2 hs_ (by rw [e_]; exact GW524.out))) (fun hn_ => (Kd.freshB (g := gb524) (o := .cells #[.slice A0_0 l0_0.length c0_0, .slice A0_1 l0_1.length c0_1] 66 (0, 0)) BK524.out k_ hn_)))) (below_size HB.out)); have HO530 := Aside0.mk (Kd.V_lower (Kd.V_mono (ok' := fun k_ => k_ ≠ gb524) ho1 (fun k_ hk_ => Or.elim hk_ (fun hs_ => Or.elim hs_ (fun hs_ => fun e_ => Nat.not_le.2 hs_ (by rw [e_]; exact GW524.out)) (fun hs_ => fun e_ => Nat.not_le.2 hs_ (by rw [e_]; exact GW524.out))) (fun hn_ => (Kd.freshB (g := gb524) (o := .cells #[.slice A0_0 l0_0.length c0_0, .slice A0_1 l0_1.length c0_1] 66 (0, 0)) BK524.out k_ hn_)))) (below_size HB.out)); replace BK524 := Aside0.mk (blk_below (g := gb524) (o := .cells #[.slice A0_0 l0_0.length c0_0, .slice A0_1 l0_1.length c0_1] 66 (0, 0)) BK524.out hb); replace HB := Aside0.mk (below_step HB.out hb); (try clear hb); (try clear ho0); (try clear ho1)) | ((with_reducible refine gate_dst (N := 4) rfl ?_); (try (refine gate_guard (by rfl) ?_; dsimp only)); refine box_event ?hg (N := 4) ?hd (cs := #[.slice none 0 0, .slice none 0 0]) (t := 66) ?hr ?_; (case hd => rfl); (case hg => rfl); (case hr => first | (go_simp; done)); intro gb531 hg w7 hbox hb; replace HO527 := Aside0.mk (Kd.V_below (Kd.V_elderB HO527.out gb531 (Nat.le_of_eq hg.symm)) hb); replace HO530 := Aside0.mk (Kd.V_below (Kd.V_elderB HO530.out gb531 (Nat.le_of_eq hg.symm)) hb); have BK531 := Aside0.mk hbox; have GW531 := Aside0.mk ((by rw [hg]; exact (below_size HB.out) : w.heap.size ≤ gb531)); have GE531 := Aside0.mk ((by rw [hg]; exact (below_size HB.out) : w.heap.size ≤ gb531)); replace HB := Aside0.mk (below_step HB.out hb); have NB524_531 := Aside0.mk ((by rw [hg]; exact Nat.ne_of_lt (blk_lt (g := gb524) (o := .cells #[.slice A0_0 l0_0.length c0_0, .slice A0_1 l0_1.length c0_1] 66 (0, 0)) BK524.out) : gb524 ≠ gb531)); have NB531_524 := Aside0.mk ((by rw [hg]; exact Nat.ne_of_gt (blk_lt (g := gb524) (o := .cells #[.slice A0_0 l0_0.length c0_0, .slice A0_1 l0_1.length c0_1] 66 (0, 0)) BK524.out) : gb531 ≠ gb524)); replace BK524 := Aside0.mk (blk_below (g := gb524) (o := .cells #[.slice A0_0 l0_0.length c0_0, .slice A0_1 l0_1.length c0_1] 66 (0, 0)) BK524.out hb); clear hb hbox hg; obtain ⟨Ao8, co8, eo8⟩ := Kd.V_slice HO527.out; subst eo8; have hnb9 := NB531_524.out; have hnc9 := NB524_531.out; have hcz10_0 : w7.cell? ⟨gb531, 0, none⟩ = some (.slice none 0 0) := (blk_cell BK531.out 0).trans rfl; have hcz10_1 : w7.cell? ⟨gb531, 1, none⟩ = some (.slice none 0 0) := (blk_cell BK531.out 1).trans rfl; have hfz10_0 := blk_frozen BK531.out 0; have hfz10_1 := blk_frozen BK531.out 1; obtain ⟨Ao11, co11, eo11⟩ := Kd.V_slice HO530.out; subst eo11))
  go_ret2
  exact ⟨by first | rfl | (simp [*, errW_none, errW_some] <;> rfl), by repeat (first | (with_reducible first | exact HB.out | refine below_set ?_ GE531.out))⟩
 ·rw [if_neg c3] at H
  have c3b0 : decide (60 < (t525.length : Int)) = false := decide_eq_false c3
  have c3b1 : decide (60 < t525.length) = false := decide_eq_false (by omega)
  clear c3
  by_cases c12 : (t528.length : Int) > 60
  ·rw [if_pos c12] at H
   have c12b0 : decide (60 < (t528.length : Int)) = true := decide_eq_true c12
   have c12b1 : decide (60 < t528.length) = true := decide_eq_true (by omega)
   clear c12
   simp only [Option.some.injEq, Prod.mk.injEq] at H
   obtain ⟨rfl, rfl⟩ := H
   go_enter Try.func75, Try.ntmps75
   go_wp2_with (first | ((with_reducible refine gate_dst (N := 1) rfl ?_); (try (refine gate_guard (by rfl) ?_; dsimp only)); refine box_event ?hg (N := 1) ?hd (cs := #[.slice A0_0 l0_0.length c0_0, .slice A0_1 l0_1.length c0_1]) (t := 66) ?hr ?_; (case hd => rfl); (case hg => rfl); (case hr => first | (go_simp; done)); intro gb524 hg w13 hbox hb; have BK524 := Aside0.mk hbox; have GW524 := Aside0.mk ((by rw [hg]; exact (below_size HB.out) : w.heap.size ≤ gb524)); have GE524 := Aside0.mk ((by rw [hg]; exact (below_size HB.out) : w.heap.size ≤ gb524)); replace HB := Aside0.mk (below_step HB.out hb); clear hb hbox hg; have hcz14_0 : w13.cell? ⟨gb524, 0, none⟩ = some (.slice A0_0 l0_0.length c0_0) := (blk_cell BK524.out 0).trans rfl; have hcz14_1 : w13.cell? ⟨gb524, 1, none⟩ = some (.slice A0_1 l0_1.length c0_1) := (blk_cell BK524.out 1).trans rfl; have hfz14_0 := blk_frozen BK524.out 0; have hfz14_1 := blk_frozen BK524.out 1) | ((with_reducible refine gate_callee (f := 90) rfl ?_); refine goesL_ (some 6) rfl rfl Try.func90 (by kernel_rfl) rfl #[.agg #[.slice A0_0 l0_0.length c0_0, .slice A0_1 l0_1.length c0_1]] rfl (by (try simp only [List.map_toArray, List.map_cons, List.map_nil]); rfl) ?_; (with_reducible refine (spec_l1Less.calls k (fun k_ => k_ < w.heap.size) _ _ l0_0 (fun k_ => k_ < w.heap.size) _ _ l0_1 t525 t528 _ ?side1 ?side2 A2.out).mono ?_); (case side1 => exact Kd.V_mk HC0_0.out (Kd.F_below (Kd.C_F Kd.heap_bool HR0_0.out) HB.out)); (case side2 => exact Kd.V_mk HC0_1.out (Kd.F_below (Kd.C_F Kd.heap_bool HR0_1.out) HB.out)); rintro e w15 ⟨v526, v529, rfl, ho0, ho1, hb⟩; refine ⟨_, rfl, ?_⟩; have HO527 := Aside0.mk (Kd.V_lower (Kd.V_mono (ok' := fun k_ => k_ ≠ gb524) ho0 (fun k_ hk_ => Or.elim hk_ (fun hs_ => Or.elim hs_ (fun hs_ => fun e_ => Nat.not_le.2 hs_ (by rw [e_]; exact GW524.out)) (fun hs_ => fun e_ => Nat.not_le.2 hs_ (by rw [e_]; exact GW524.out))) (fun hn_ => (Kd.freshB (g := gb524) (o := .cells #[.slice A0_0 l0_0.length c0_0, .slice A0_1 l0_1.length c0_1] 66 (0, 0)) BK524.out k_ hn_)))) (below_size HB.out)); have HO530 := Aside0.mk (Kd.V_lower (Kd.V_mono (ok' := fun k_ => k_ ≠ gb524) ho1 (fun k_ hk_ => Or.elim hk_ (fun hs_ => Or.elim hs_ (fun hs_ => fun e_ => Nat.not_le.2 hs_ (by rw [e_]; exact GW524.out)) (fun hs_ => fun e_ => Nat.not_le.2 hs_ (by rw [e_]; exact GW524.out))) (fun hn_ => (Kd.freshB (g := gb524) (o := .cells #[.slice A0_0 l0_0.length c0_0, .slice A0_1 l0_1.length c0_1] 66 (0, 0)) BK524.out k_ hn_)))) (below_size HB.out)); replace BK524 := Aside0.mk (blk_below (g := gb524) (o := .cells #[.slice A0_0 l0_0.length c0_0, .slice A0_1 l0_1.length c0_1] 66 (0, 0)) BK524.out hb); replace HB := Aside0.mk (below_step HB.out hb); (try clear hb); (try clear ho0); (try clear ho1)) | ((with_reducible refine gate_dst (N := 4) rfl ?_); (try (refine gate_guard (by rfl) ?_; dsimp only)); refine box_event ?hg (N := 4) ?hd (cs := #[.slice none 0 0, .slice none 0 0]) (t := 66) ?hr ?_; (case hd => rfl); (case hg => rfl); (case hr => first | (go_simp; done)); intro gb531 hg w16 hbox hb; replace HO527 := Aside0.mk (Kd.V_below (Kd.V_elderB HO527.out gb531 (Nat.le_of_eq hg.symm)) hb); replace HO530 := Aside0.mk (Kd.V_below (Kd.V_elderB HO530.out gb531 (Nat.le_of_eq hg.symm)) hb); have BK531 := Aside0.mk hbox; have GW531 := Aside0.mk ((by rw [hg]; exact (below_size HB.out) : w.heap.size ≤ gb531)); have GE531 := Aside0.mk ((by rw [hg]; exact (below_size HB.out) : w.heap.size ≤ gb531)); replace HB := Aside0.mk (below_step HB.out hb); have NB524_531 := Aside0.mk ((by rw [hg]; exact Nat.ne_of_lt (blk_lt (g := gb524) (o := .cells #[.slice A0_0 l0_0.length c0_0, .slice A0_1 l0_1.length c0_1] 66 (0, 0)) BK524.out) : gb524 ≠ gb531)); have NB531_524 := Aside0.mk ((by rw [hg]; exact Nat.ne_of_gt (blk_lt (g := gb524) (o := .cells #[.slice A0_0 l0_0.length c0_0, .slice A0_1 l0_1.length c0_1] 66 (0, 0)) BK524.out) : gb531 ≠ gb524)); replace BK524 := Aside0.mk (blk_below (g := gb524) (o := .cells #[.slice A0_0 l0_0.length c0_0, .slice A0_1 l0_1.length c0_1] 66 (0, 0)) BK524.out hb); clear hb hbox hg; obtain ⟨Ao17, co17, eo17⟩ := Kd.V_slice HO527.out; subst eo17; have hnb18 := NB531_524.out; have hnc18 := NB524_531.out; have hcz19_0 : w16.cell? ⟨gb531, 0, none⟩ = some (.slice none 0 0) := (blk_cell BK531.out 0).trans rfl; have hcz19_1 : w16.cell? ⟨gb531, 1, none⟩ = some (.slice none 0 0) := (blk_cell BK531.out 1).trans rfl; have hfz19_0 := blk_frozen BK531.out 0; have hfz19_1 := blk_frozen BK531.out 1; obtain ⟨Ao20, co20, eo20⟩ := Kd.V_slice HO530.out; subst eo20))
   go_ret2
   exact ⟨by first | rfl | (simp [*, errW_none, errW_some] <;> rfl), by repeat (first | (with_reducible first | exact HB.out | refine below_set ?_ GE531.out))⟩
  ·rw [if_neg c12] at H
   have c12b0 : decide (60 < (t528.length : Int)) = false := decide_eq_false c12
   have c12b1 : decide (60 < t528.length) = false := decide_eq_false (by omega)
   clear c12
   replace H := Option.bind_eq_some_iff.mp H
   obtain ⟨t532, A210, H⟩ := H
   replace H : (some (t532, true)) = some (r1, r2) := H
   have A21 := Aside0.mk A210
   clear A210
   simp only [Option.some.injEq, Prod.mk.injEq] at H
   obtain ⟨rfl, rfl⟩ := H
   go_enter Try.func75, Try.ntmps75
   go_wp2_with (first | ((with_reducible refine gate_dst (N := 1) rfl ?_); (try (refine gate_guard (by rfl) ?_; dsimp only)); refine box_event ?hg (N := 1) ?hd (cs := #[.slice A0_0 l0_0.length c0_0, .slice A0_1 l0_1.length c0_1]) (t := 66) ?hr ?_; (case hd => rfl); (case hg => rfl); (case hr => first | (go_simp; done)); intro gb524 hg w22 hbox hb; have BK524 := Aside0.mk hbox; have GW524 := Aside0.mk ((by rw [hg]; exact (below_size HB.out) : w.heap.size ≤ gb524)); have GE524 := Aside0.mk ((by rw [hg]; exact (below_size HB.out) : w.heap.size ≤ gb524)); replace HB := Aside0.mk (below_step HB.out hb); clear hb hbox hg; have hcz23_0 : w22.cell? ⟨gb524, 0, none⟩ = some (.slice A0_0 l0_0.length c0_0) := (blk_cell BK524.out 0).trans rfl; have hcz23_1 : w22.cell? ⟨gb524, 1, none⟩ = some (.slice A0_1 l0_1.length c0_1) := (blk_cell BK524.out 1).trans rfl; have hfz23_0 := blk_frozen BK524.out 0; have hfz23_1 := blk_frozen BK524.out 1) | ((with_reducible refine gate_callee (f := 90) rfl ?_); refine goesL_ (some 6) rfl rfl Try.func90 (by kernel_rfl) rfl #[.agg #[.slice A0_0 l0_0.length c0_0, .slice A0_1 l0_1.length c0_1]] rfl (by (try simp only [List.map_toArray, List.map_cons, List.map_nil]); rfl) ?_; (with_reducible refine (spec_l1Less.calls k (fun k_ => k_ < w.heap.size) _ _ l0_0 (fun k_ => k_ < w.heap.size) _ _ l0_1 t525 t528 _ ?side1 ?side2 A2.out).mono ?_); (case side1 => exact Kd.V_mk HC0_0.out (Kd.F_below (Kd.C_F Kd.heap_bool HR0_0.out) HB.out)); (case side2 => exact Kd.V_mk HC0_1.out (Kd.F_below (Kd.C_F Kd.heap_bool HR0_1.out) HB.out)); rintro e w24 ⟨v526, v529, rfl, ho0, ho1, hb⟩; refine ⟨_, rfl, ?_⟩; have HO527 := Aside0.mk (Kd.V_lower (Kd.V_mono (ok' := fun k_ => k_ ≠ gb524) ho0 (fun k_ hk_ => Or.elim hk_ (fun hs_ => Or.elim hs_ (fun hs_ => fun e_ => Nat.not_le.2 hs_ (by rw [e_]; exact GW524.out)) (fun hs_ => fun e_ => Nat.not_le.2 hs_ (by rw [e_]; exact GW524.out))) (fun hn_ => (Kd.freshB (g := gb524) (o := .cells #[.slice A0_0 l0_0.length c0_0, .slice A0_1 l0_1.length c0_1] 66 (0, 0)) BK524.out k_ hn_)))) (below_size HB.out)); have HO530 := Aside0.mk (Kd.V_lower (Kd.V_mono (ok' := fun k_ => k_ ≠ gb524) ho1 (fun k_ hk_ => Or.elim hk_ (fun hs_ => Or.elim hs_ (fun hs_ => fun e_ => Nat.not_le.2 hs_ (by rw [e_]; exact GW524.out)) (fun hs_ => fun e_ => Nat.not_le.2 hs_ (by rw [e_]; exact GW524.out))) (fun hn_ => (Kd.freshB (g := gb524) (o := .cells #[.slice A0_0 l0_0.length c0_0, .slice A0_1 l0_1.length c0_1] 66 (0, 0)) BK524.out k_ hn_)))) (below_size HB.out)); replace BK524 := Aside0.mk (blk_below (g := gb524) (o := .cells #[.slice A0_0 l0_0.length c0_0, .slice A0_1 l0_1.length c0_1] 66 (0, 0)) BK524.out hb); replace HB := Aside0.mk (below_step HB.out hb); (try clear hb); (try clear ho0); (try clear ho1)) | ((with_reducible refine gate_dst (N := 4) rfl ?_); (try (refine gate_guard (by rfl) ?_; dsimp only)); refine box_event ?hg (N := 4) ?hd (cs := #[.slice none 0 0, .slice none 0 0]) (t := 66) ?hr ?_; (case hd => rfl); (case hg => rfl); (case hr => first | (go_simp; done)); intro gb531 hg w25 hbox hb; replace HO527 := Aside0.mk (Kd.V_below (Kd.V_elderB HO527.out gb531 (Nat.le_of_eq hg.symm)) hb); replace HO530 := Aside0.mk (Kd.V_below (Kd.V_elderB HO530.out gb531 (Nat.le_of_eq hg.symm)) hb); have BK531 := Aside0.mk hbox; have GW531 := Aside0.mk ((by rw [hg]; exact (below_size HB.out) : w.heap.size ≤ gb531)); have GE531 := Aside0.mk ((by rw [hg]; exact (below_size HB.out) : w.heap.size ≤ gb531)); replace HB := Aside0.mk (below_step HB.out hb); have NB524_531 := Aside0.mk ((by rw [hg]; exact Nat.ne_of_lt (blk_lt (g := gb524) (o := .cells #[.slice A0_0 l0_0.length c0_0, .slice A0_1 l0_1.length c0_1] 66 (0, 0)) BK524.out) : gb524 ≠ gb531)); have NB531_524 := Aside0.mk ((by rw [hg]; exact Nat.ne_of_gt (blk_lt (g := gb524) (o := .cells #[.slice A0_0 l0_0.length c0_0, .slice A0_1 l0_1.length c0_1] 66 (0, 0)) BK524.out) : gb531 ≠ gb524)); replace BK524 := Aside0.mk (blk_below (g := gb524) (o := .cells #[.slice A0_0 l0_0.length c0_0, .slice A0_1 l0_1.length c0_1] 66 (0, 0)) BK524.out hb); clear hb hbox hg; obtain ⟨Ao26, co26, eo26⟩ := Kd.V_slice HO527.out; subst eo26; have hnb27 := NB531_524.out; have hnc27 := NB524_531.out; have hcz28_0 : w25.cell? ⟨gb531, 0, none⟩ = some (.slice none 0 0) := (blk_cell BK531.out 0).trans rfl; have hcz28_1 : w25.cell? ⟨gb531, 1, none⟩ = some (.slice none 0 0) := (blk_cell BK531.out 1).trans rfl; have hfz28_0 := blk_frozen BK531.out 0; have hfz28_1 := blk_frozen BK531.out 1; obtain ⟨Ao29, co29, eo29⟩ := Kd.V_slice HO530.out; subst eo29) | ((with_reducible refine gate_callee (f := 110) rfl ?_); refine goesL_ (some 18) rfl rfl Try.func110 (by kernel_rfl) rfl #[.agg #[.slice Ao26 t525.length co26, .slice Ao29 t528.length co29]] rfl (by (try simp only [List.map_toArray, List.map_cons, List.map_nil]); rfl) ?_; (with_reducible refine (spec_l1Write.calls k _ _ t525 _ _ t528 t532 _ ?side1 ?side2 ?side3 ?side4 A21.out).mono ?_); (case side1 => refine (Kd.V_reads' (e := 4) (base := w.heap.size) (ok := fun k_ => (k_ ≠ gb524 ∧ k_ ≠ gb531)) (n := t525.length) (c := co26) ?_).2.2; exact (by exact (Kd.V_mono (Kd.V_far (p := ⟨gb531, 1, none⟩) (Kd.V_far (p := ⟨gb531, 0, none⟩) (Kd.V_mono HO527.out (fun k_ hk => (⟨hk, hk.2⟩ : _ ∧ k_ ≠ gb531))) (fun _ hk => hk.2) (.slice Ao26 t525.length co26)) (fun _ hk => hk.2) (.slice Ao29 t528.length co29)) (fun _ h_ => h_.1)))); (case side2 => exact (Kd.V_reads' HO527.out).2.1); (case side3 => refine (Kd.V_reads' (e := 4) (base := w.heap.size) (ok := fun k_ => (k_ ≠ gb524 ∧ k_ ≠ gb531)) (n := t528.length) (c := co29) ?_).2.2; exact (by exact (Kd.V_mono (Kd.V_far (p := ⟨gb531, 1, none⟩) (Kd.V_far (p := ⟨gb531, 0, none⟩) (Kd.V_mono HO530.out (fun k_ hk => (⟨hk, hk.2⟩ : _ ∧ k_ ≠ gb531))) (fun _ hk => hk.2) (.slice Ao26 t525.length co26)) (fun _ hk => hk.2) (.slice Ao29 t528.length co29)) (fun _ h_ => h_.1)))); (case side4 => exact (Kd.V_reads' HO530.out).2.1); rintro e w30 ⟨rfl, hb⟩; refine ⟨_, rfl, ?_⟩; replace HO527 := Aside0.mk (Kd.V_below (by exact (Kd.V_mono (Kd.V_far (p := ⟨gb531, 1, none⟩) (Kd.V_far (p := ⟨gb531, 0, none⟩) (Kd.V_mono HO527.out (fun k_ hk => (⟨hk, hk.2⟩ : _ ∧ k_ ≠ gb531))) (fun _ hk => hk.2) (.slice Ao26 t525.length co26)) (fun _ hk => hk.2) (.slice Ao29 t528.length co29)) (fun _ h_ => h_.1))) hb); replace HO530 := Aside0.mk (Kd.V_below (by exact (Kd.V_mono (Kd.V_far (p := ⟨gb531, 1, none⟩) (Kd.V_far (p := ⟨gb531, 0, none⟩) (Kd.V_mono HO530.out (fun k_ hk => (⟨hk, hk.2⟩ : _ ∧ k_ ≠ gb531))) (fun _ hk => hk.2) (.slice Ao26 t525.length co26)) (fun _ hk => hk.2) (.slice Ao29 t528.length co29)) (fun _ h_ => h_.1))) hb); replace BK524 := Aside0.mk (blk_below (g := gb524) (o := .cells #[.slice A0_0 l0_0.length c0_0, .slice A0_1 l0_1.length c0_1] 66 (0, 0)) (by refine blk_far ?_ NB524_531.out _; refine blk_far ?_ NB524_531.out _; exact BK524.out) hb); replace BK531 := Aside0.mk (blk_below (g := gb531) (o := .cells #[.slice Ao26 t525.length co26, .slice Ao29 t528.length co29] 66 (0, 0)) (by refine blk_put (cs := #[.slice Ao26 t525.length co26, .slice none 0 0]) ?_ 1 _ rfl; refine blk_put (cs := #[.slice none 0 0, .slice none 0 0]) ?_ 0 _ rfl; exact BK531.out) hb); replace HB := Aside0.mk (below_step (by repeat (first | (with_reducible first | exact HB.out | refine below_set ?_ GE531.out))) hb); (try clear hb)))
   go_ret2
   exact ⟨by first | rfl | (simp [*, errW_none, errW_some] <;> rfl), HB.out⟩


def spec_l2Fill.f (k : Nat) (l0 : List Bool) (a1 : Int) : Option (ByteArray × Bool) := if 0 ≤ a1 then (if a1 ≤ (l0.length : Int) then ((spec_l1Done.f k (l0.take (a1 : Int).toNat) (l0.drop (a1 : Int).toNat)).bind fun bt535 => (some (bt535.1, bt535.2))) else (none)) else (none)
theorem spec_l2Fill.mono : ∀ a0 a1 k, LeO (spec_l2Fill.f k a0 a1) (spec_l2Fill.f (k + 1) a0 a1) := by
 intro a0 a1 k
 unfold spec_l2Fill.f
 repeat' first | (with_reducible exact spec_l1Done.mono _ _ _) | (with_reducible exact LeO.refl _) | (with_reducible refine LeO.ite ?_ ?_) | (with_reducible refine LeO.bind ?_ (fun _ => ?_))
def spec_l2Fill.T1 : Bool × List (List Nat × List Nat) := (true, [([], []), ([], []), ([0, 1], [0, 1]), ([], []), ([], []), ([3, 4], [3, 4]), ([2, 5], [2, 5]), ([6], [6]), ([7], [7]), ([7], [7]), ([8, 7, 0, 1, 2, 3, 4, 5, 6, 7, 8, 9], [8]), ([9, 10, 0, 1, 2, 3, 4, 5, 6, 7, 8, 9, 10], [9])])
def spec_l2Fill.B1 : List Nat := [0, 0, 3, 0, 0, 24, 63, 127, 255, 255, 1023, 2047]
theorem spec_l2Fill.tab1 : rtab .any (opsOf Try.f76 1) = spec_l2Fill.T1 := by kernel_rfl
theorem spec_l2Fill.bits1 : waitsOk spec_l2Fill.T1.2 spec_l2Fill.B1 = true := by kernel_rfl
set_option maxHeartbeats 8000000 in
set_option maxRecDepth 100000 in
theorem spec_l2Fill.calls (k : Nat) (A0 : Option Addr) (c0 : Nat) (l0 : List Bool) (a1 : Int) (r1 : ByteArray) (r2 : Bool) (w : World) (hr0 : Kd.C Kd.bool w A0 l0.length l0) (hc0 : l0.length ≤ c0) (h : spec_l2Fill.f k l0 a1 = some (r1, r2)) :
  Calls Try.prog 76 #[.slice A0 l0.length c0, .int .i64 a1] w fun e w' => e = .returned (.tuple #[.string r1, .bool r2]) ∧ Below w.heap.size w w' := by
 have hu66 := Try.underlying66
 have HR0 := Aside0.mk hr0
 have HC0 := Aside0.mk hc0
 clear hr0 hc0
 have HB := Aside0.mk (Below.refl w.heap.size w)
 have H : (if 0 ≤ a1 then (if a1 ≤ (l0.length : Int) then ((spec_l1Done.f k (l0.take (a1 : Int).toNat) (l0.drop (a1 : Int).toNat)).bind fun bt535 => (some (bt535.1, bt535.2))) else (none)) else (none)) = some (r1, r2) := h
 clear h
 by_cases c3 : 0 ≤ a1
 ·rw [if_pos c3] at H
  have c3b0 := eq_true c3
  have c3b1 : decide (0 ≤ a1) = true := decide_eq_true c3
  clear c3
  by_cases c4 : a1 ≤ (l0.length : Int)
  ·rw [if_pos c4] at H
   have c4b0 := eq_true c4
   have c4b1 : decide (a1 ≤ (l0.length : Int)) = true := decide_eq_true c4
   clear c4
   have c5b0 := eq_true (of_decide_eq_true (by (with_reducible assumption)) : 0 ≤ a1)
   have c6b0 := eq_true (of_decide_eq_true (by (with_reducible assumption)) : a1 ≤ (l0.length : Int))
   replace H := Option.bind_eq_some_iff.mp H
   obtain ⟨⟨t535, t536⟩, A70, H⟩ := H
   replace H : (some (t535, t536)) = some (r1, r2) := H
   have A7 := Aside0.mk A70
   clear A70
   simp only [Option.some.injEq, Prod.mk.injEq] at H
   obtain ⟨rfl, rfl⟩ := H
   go_enter Try.func76, Try.ntmps76
   try go_wp2
   replace HB := Aside0.mk (below_drew1 HB.out)
   obtain ⟨i09, hi09, _, hsz9, _⟩ := info_parts info4
   obtain ⟨hcut9, hA9, hC9⟩ := print_take_of (P := Try.prog) Value.bool false 58 4 .i64 Try.underlying58 hi09 hsz9 A0 c0 l0 a1 (of_decide_eq_true (by (with_reducible assumption))) (of_decide_eq_true (by (with_reducible assumption))) HC0.out
   have HR533 := Aside0.mk (Kd.C_of_reads (h1 := fun _ => rfl) (hA9 _ (Kd.reads_of_C HR0.out)))
   have HC533 := Aside0.mk hC9
   clear hA9 hC9 hi09 hsz9
   obtain ⟨i010, hi010, _, hsz10, _⟩ := info_parts info4
   obtain ⟨A10, hcut10, hA10, hC10⟩ := print_drop_of (P := Try.prog) Value.bool false 58 4 .i64 Try.underlying58 hi010 hsz10 A0 c0 l0 a1 (of_decide_eq_true (by (with_reducible assumption))) (of_decide_eq_true (by (with_reducible assumption))) HC0.out
   have HR534 := Aside0.mk (Kd.C_of_reads (h1 := fun _ => rfl) (hA10 _ (Kd.reads_of_C HR0.out)))
   have HC534 := Aside0.mk hC10
   clear hA10 hC10 hi010 hsz10
   refine start_ (n := 12) (S := fun w' => True) (ds := []) #[false, false, false, false, false, false, false, false, false, false, false, false] (by kernel_rfl) rfl rfl trivial (fun hHeld => ?_); refine with_tabW spec_l2Fill.tab1 spec_l2Fill.bits1 (fun HT_ HW_ => ?_)
   generalize w.drew = w8 at HB HR533 HR534 hHeld ⊢
   refine pure_ (i := 0) (N := some 6) (v := ?_) (a' := ?_) #[true, false, false, false, false, false, false, false, false, false, false, false] rfl rfl (any_of HT_.out (by kernel_rfl)) (fun _ _ _ h => h) (Or.inl ⟨by rfl, ?_⟩) ?_ ?_
   rotate_left
   ·intro w'
    go_simp
    with_reducible rfl
   rotate_left
   ·simp only [Act.put, List.setIfInBounds_toArray, List.set_cons_zero, List.set_cons_succ, i64_w, i32_w]
    rfl
   refine pure_ (i := 1) (N := some 7) (v := ?_) (a' := ?_) #[true, true, false, false, false, false, false, false, false, false, false, false] rfl rfl (any_of HT_.out (by kernel_rfl)) (fun _ _ _ h => h) (Or.inl ⟨by rfl, ?_⟩) ?_ ?_
   rotate_left
   ·intro w'
    go_simp
    with_reducible rfl
   rotate_left
   ·simp only [Act.put, List.setIfInBounds_toArray, List.set_cons_zero, List.set_cons_succ, i64_w, i32_w]
    rfl
   refine pure_ (i := 2) (N := some 8) (v := ?_) (a' := ?_) #[true, true, true, false, false, false, false, false, false, false, false, false] rfl rfl (any_of HT_.out (by kernel_rfl)) (fun _ _ _ h => h) (Or.inl ⟨by rfl, ?_⟩) ?_ ?_
   rotate_left
   ·intro w'
    go_simp
    with_reducible rfl
   rotate_left
   ·simp only [Act.put, List.setIfInBounds_toArray, List.set_cons_zero, List.set_cons_succ, i64_w, i32_w]
    rfl
   refine pure_ (i := 3) (N := some 9) (v := ?_) (a' := ?_) #[true, true, true, true, false, false, false, false, false, false, false, false] rfl rfl (any_of HT_.out (by kernel_rfl)) (fun _ _ _ h => h) (Or.inl ⟨by rfl, ?_⟩) ?_ ?_
   rotate_left
   ·intro w'
    go_simp
    with_reducible rfl
   rotate_left
   ·simp only [Act.put, List.setIfInBounds_toArray, List.set_cons_zero, List.set_cons_succ, i64_w, i32_w]
    rfl
   refine pure_ (i := 4) (N := some 10) (v := ?_) (a' := ?_) #[true, true, true, true, true, false, false, false, false, false, false, false] rfl rfl (any_of HT_.out (by kernel_rfl)) (fun _ _ _ h => h) (Or.inl ⟨by rfl, ?_⟩) ?_ ?_
   rotate_left
   ·intro w'
    go_simp
    with_reducible rfl
   rotate_left
   ·simp only [Act.put, List.setIfInBounds_toArray, List.set_cons_zero, List.set_cons_succ, i64_w, i32_w]
    rfl
   refine pure_ (i := 5) (N := some 11) (v := ?_) (a' := ?_) #[true, true, true, true, true, true, false, false, false, false, false, false] rfl rfl (any_of HT_.out (by kernel_rfl)) (fun _ _ _ h => h) (Or.inl ⟨by rfl, ?_⟩) ?_ ?_
   rotate_left
   ·intro w'
    go_simp
    with_reducible rfl
   rotate_left
   ·simp only [Act.put, List.setIfInBounds_toArray, List.set_cons_zero, List.set_cons_succ, i64_w, i32_w]
    rfl
   refine pure_ (i := 6) (N := some 12) (v := ?_) (a' := ?_) #[true, true, true, true, true, true, true, false, false, false, false, false] rfl rfl (any_of HT_.out (by kernel_rfl)) (fun _ _ _ h => h) (Or.inl ⟨by rfl, ?_⟩) ?_ ?_
   rotate_left
   ·intro w'
    go_simp
    with_reducible rfl
   rotate_left
   ·simp only [Act.put, List.setIfInBounds_toArray, List.set_cons_zero, List.set_cons_succ, i64_w, i32_w]
    rfl
   refine one_ (i := 7) (N := some 13) #[true, true, true, true, true, true, true, true, false, false, false, false] rfl rfl (one_of HT_.out (by kernel_rfl)) (by decide) (fun K hK => ?_)
   refine goes_ Try.func75 (by kernel_rfl) rfl #[.agg #[.slice A0 (l0.take (a1 : Int).toNat).length c0, .slice A10 (l0.drop (a1 : Int).toNat).length (c0 - a1.toNat)]] (by rfl) rfl rfl (by (try simp only [List.map_toArray, List.map_cons, List.map_nil]); first | (rw [show (l0.take (a1 : Int).toNat).length = a1.toNat from (by rw [List.length_take]; have h_ : (a1 : Int) ≤ (l0.length : Int) := of_decide_eq_true (by (with_reducible assumption)); omega), show (l0.drop (a1 : Int).toNat).length = (l0.length - a1.toNat) from List.length_drop] <;> rfl)) ?_
   with_reducible refine (spec_l1Done.calls k _ _ (l0.take (a1 : Int).toNat) _ _ (l0.drop (a1 : Int).toNat) t535 t536 _ ?side1 ?side2 ?side3 ?side4 A7.out).mono ?_
   (case side1 => repeat (exact (Kd.C_below HR533.out HB.out)))
   (case side2 => exact HC533.out)
   (case side3 => repeat (exact (Kd.C_below HR534.out HB.out)))
   (case side4 => exact HC534.out)
   rintro e w11 ⟨rfl, hb⟩
   refine ⟨_, rfl, ?_⟩
   replace HB := Aside0.mk (below_step HB.out hb)
   (try clear hb)
   refine hK.out _ _ trivial (fun hHeld => ?_)
   clear hK K
   refine norm_ (a' := ?_) ?_ ?_
   rotate_left
   ·show Act.put _ (some 13) _ = _
    simp only [Act.put, List.setIfInBounds_toArray, List.set_cons_zero, List.set_cons_succ, i64_w, i32_w]
    rfl
   refine pure_ (i := 8) (N := some 14) (v := ?_) (a' := ?_) #[true, true, true, true, true, true, true, true, true, false, false, false] rfl rfl (any_of HT_.out (by kernel_rfl)) (fun _ _ _ h => h) (Or.inl ⟨by rfl, ?_⟩) ?_ ?_
   rotate_left
   ·intro w'
    go_simp
    with_reducible rfl
   rotate_left
   ·simp only [Act.put, List.setIfInBounds_toArray, List.set_cons_zero, List.set_cons_succ, i64_w, i32_w]
    rfl
   refine pure_ (i := 9) (N := some 15) (v := ?_) (a' := ?_) #[true, true, true, true, true, true, true, true, true, true, false, false] rfl rfl (any_of HT_.out (by kernel_rfl)) (fun _ _ _ h => h) (Or.inl ⟨by rfl, ?_⟩) ?_ ?_
   rotate_left
   ·intro w'
    go_simp
    with_reducible rfl
   rotate_left
   ·simp only [Act.put, List.setIfInBounds_toArray, List.set_cons_zero, List.set_cons_succ, i64_w, i32_w]
    rfl
   refine pure_ (i := 10) (N := some 4) (v := ?_) (a' := ?_) #[true, true, true, true, true, true, true, true, true, true, true, false] rfl rfl (any_of HT_.out (by kernel_rfl)) (fun _ _ _ h => h) (Or.inl ⟨by rfl, ?_⟩) ?_ ?_
   rotate_left
   ·intro w'
    go_simp
    with_reducible rfl
   rotate_left
   ·simp only [Act.put, List.setIfInBounds_toArray, List.set_cons_zero, List.set_cons_succ, i64_w, i32_w]
    rfl
   refine pure_ (i := 11) (N := some 5) (v := ?_) (a' := ?_) #[true, true, true, true, true, true, true, true, true, true, true, true] rfl rfl (any_of HT_.out (by kernel_rfl)) (fun _ _ _ h => h) (Or.inl ⟨by rfl, ?_⟩) ?_ ?_
   rotate_left
   ·intro w'
    go_simp
    with_reducible rfl
   rotate_left
   ·simp only [Act.put, List.setIfInBounds_toArray, List.set_cons_zero, List.set_cons_succ, i64_w, i32_w]
    rfl
   refine done_ (done_of HT_.out (by kernel_rfl)) ?_
   try go_wp2
   go_ret2
   exact ⟨by first | rfl | (simp [*, errW_none, errW_some] <;> rfl), HB.out⟩
  ·rw [if_neg c4] at H
   exact absurd H (by simp)
 ·rw [if_neg c3] at H
  exact absurd H (by simp)


def spec_StarPlus.j0 : Nat → Int → List Bool → List Bool → List Bool → Option (ByteArray × Bool)
 | 0, _, _, _, _ => none
 | k + 1, x6, x7, x833000, x833001 => (spec_l1Has.f x833000 x833001 0).bind fun t840 => (if 0 < (x7.length : Int) then ((some (x7.set (0 : Int).toNat t840 : List Bool)).bind fun y841 => (if x6 = 0 then ((spec_l1Done.f k y841 (([false] : List Bool))).bind fun bt845 => (some (bt845.1, bt845.2))) else ((spec_l2Fill.f k y841 2400).bind fun bt847 => (some (bt847.1, bt847.2))))) else (none))
def spec_StarPlus.f (k : Nat) (a0 : ByteArray) : Option (ByteArray × Bool) := (spec_l4Small.f k a0).bind fun bt825 => (if bt825.2.2 = true then ((spec_l4Least.f k bt825.1 bt825.2.1).bind fun t833 => (if 1 ≤ 281474976710656 then (if t833 > 0 then ((spec_l4Star.f k bt825.1 bt825.2.1 (wrap64 (2400 + t833))).bind fun t837 => (spec_StarPlus.j0 k t833 t837 bt825.1 bt825.2.1)) else (spec_StarPlus.j0 k t833 (List.replicate 1 false) bt825.1 bt825.2.1)) else (none))) else (some ((⟨#[]⟩ : ByteArray), false)))
theorem spec_StarPlus.mono_l : ∀ k, (∀ y0 y1 y2 y3, LeO (spec_StarPlus.j0 k y0 y1 y2 y3) (spec_StarPlus.j0 (k + 1) y0 y1 y2 y3))
 | 0 => fun _ _ _ _ r h => by simp [spec_StarPlus.j0] at h
 | k + 1 => by
  have ih0 := spec_StarPlus.mono_l k
  ·intro y0 y1 y2 y3
   unfold spec_StarPlus.j0
   repeat' first | (with_reducible exact spec_l1Done.mono _ _ _) | (with_reducible exact spec_l2Fill.mono _ _ _) | (with_reducible exact LeO.refl _) | (with_reducible refine LeO.ite ?_ ?_) | (with_reducible refine LeO.bind ?_ (fun _ => ?_))
theorem spec_StarPlus.mono : ∀ a0 k, LeO (spec_StarPlus.f k a0) (spec_StarPlus.f (k + 1) a0) := by
 intro a0 k
 have ih0 := spec_StarPlus.mono_l k
 unfold spec_StarPlus.f
 repeat' first | (with_reducible exact ih0 _ _ _ _) | (with_reducible exact spec_l4Least.mono _ _ _) | (with_reducible exact spec_l4Small.mono _ _) | (with_reducible exact spec_l4Star.mono _ _ _ _) | (with_reducible exact LeO.refl _) | (with_reducible refine LeO.ite ?_ ?_) | (with_reducible refine LeO.bind ?_ (fun _ => ?_))
set_option maxHeartbeats 8000000 in
set_option maxRecDepth 100000 in
theorem spec_StarPlus.calls (k : Nat) (a0 : ByteArray) (r1 : ByteArray) (r2 : Bool) (w : World) (h : spec_StarPlus.f k a0 = some (r1, r2)) :
  Calls Try.prog 30 #[.string a0] w fun e w' => e = .returned (.tuple #[.string r1, .bool r2]) ∧ Below w.heap.size w w' := by
 have hu66 := Try.underlying66
 have HB := Aside0.mk (Below.refl w.heap.size w)
 have H : ((spec_l4Small.f k a0).bind fun bt825 => (if bt825.2.2 = true then ((spec_l4Least.f k bt825.1 bt825.2.1).bind fun t833 => (if 1 ≤ 281474976710656 then (if t833 > 0 then ((spec_l4Star.f k bt825.1 bt825.2.1 (wrap64 (2400 + t833))).bind fun t837 => (spec_StarPlus.j0 k t833 t837 bt825.1 bt825.2.1)) else (spec_StarPlus.j0 k t833 (List.replicate 1 false) bt825.1 bt825.2.1)) else (none))) else (some ((⟨#[]⟩ : ByteArray), false)))) = some (r1, r2) := h
 clear h
 replace H := Option.bind_eq_some_iff.mp H
 obtain ⟨⟨t825, t828, t831⟩, A20, H⟩ := H
 replace H : (if t831 = true then ((spec_l4Least.f k t825 t828).bind fun t833 => (if 1 ≤ 281474976710656 then (if t833 > 0 then ((spec_l4Star.f k t825 t828 (wrap64 (2400 + t833))).bind fun t837 => (spec_StarPlus.j0 k t833 t837 t825 t828)) else (spec_StarPlus.j0 k t833 (List.replicate 1 false) t825 t828)) else (none))) else (some ((⟨#[]⟩ : ByteArray), false))) = some (r1, r2) := H
 have A2 := Aside0.mk A20
 clear A20
 by_cases c3 : t831 = true
 ·subst c3
  replace H : ((spec_l4Least.f k t825 t828).bind fun t833 => (if 1 ≤ 281474976710656 then (if t833 > 0 then ((spec_l4Star.f k t825 t828 (wrap64 (2400 + t833))).bind fun t837 => (spec_StarPlus.j0 k t833 t837 t825 t828)) else (spec_StarPlus.j0 k t833 (List.replicate 1 false) t825 t828)) else (none))) = some (r1, r2) := by rw [if_pos rfl] at H; exact H
  replace H := Option.bind_eq_some_iff.mp H
  obtain ⟨t833, A40, H⟩ := H
  replace H : (if 1 ≤ 281474976710656 then (if t833 > 0 then ((spec_l4Star.f k t825 t828 (wrap64 (2400 + t833))).bind fun t837 => (spec_StarPlus.j0 k t833 t837 t825 t828)) else (spec_StarPlus.j0 k t833 (List.replicate 1 false) t825 t828)) else (none)) = some (r1, r2) := H
  have A4 := Aside0.mk A40
  clear A40
  by_cases c5 : 1 ≤ 281474976710656
  ·rw [if_pos c5] at H
   have c5b0 := eq_true c5
   have c5b1 : decide (1 ≤ 281474976710656) = true := decide_eq_true c5
   clear c5
   obtain ⟨y834, hy834⟩ : ∃ y_ : List Bool, y_ = (List.replicate 1 false) := ⟨_, rfl⟩
   replace H : (if t833 > 0 then ((spec_l4Star.f k t825 t828 (wrap64 (2400 + t833))).bind fun t837 => (spec_StarPlus.j0 k t833 t837 t825 t828)) else (spec_StarPlus.j0 k t833 y834 t825 t828)) = some (r1, r2) := by first | (rw [hy834]; with_reducible exact H)
   have Ny834 := Aside0.mk hy834
   clear hy834
   have HC6 := Aside0.mk H
   clear H
   go_enter Try.func30, Try.ntmps30
   go_upto_if 19 with (first | ((with_reducible refine gate_callee (f := 57) rfl ?_); refine goesL_ (some 10) rfl rfl Try.func57 (by kernel_rfl) rfl #[.string a0] rfl (by (try simp only [List.map_toArray, List.map_cons, List.map_nil]); rfl) ?_; (with_reducible refine (spec_l4Small.calls k a0 t825 t828 true _ A2.out).mono ?_); rintro e w7 ⟨v826, v829, rfl, ho0, ho1, hb⟩; refine ⟨_, rfl, ?_⟩; have HO827 := Aside0.mk (Kd.V_lower (Kd.V_mono (ok' := fun k_ => True) ho0 (fun k_ hk_ => trivial)) (below_size HB.out)); have HO830 := Aside0.mk (Kd.V_lower (Kd.V_mono (ok' := fun k_ => True) ho1 (fun k_ hk_ => trivial)) (below_size HB.out)); replace HB := Aside0.mk (below_step HB.out hb); (try clear hb); (try clear ho0); (try clear ho1)) | ((with_reducible refine gate_dst (N := 4) rfl ?_); refine box_event ?hg (N := 4) ?hd (cs := #[.slice none 0 0, .slice none 0 0]) (t := 66) ?hr ?_; (case hd => rfl); (case hg => rfl); (case hr => first | (go_simp; done)); intro gb832 hg w8 hbox hb; replace HO827 := Aside0.mk (Kd.V_below (Kd.V_elderB HO827.out gb832 (Nat.le_of_eq hg.symm)) hb); replace HO830 := Aside0.mk (Kd.V_below (Kd.V_elderB HO830.out gb832 (Nat.le_of_eq hg.symm)) hb); have BK832 := Aside0.mk hbox; have GW832 := Aside0.mk ((by rw [hg]; exact (below_size HB.out) : w.heap.size ≤ gb832)); have GE832 := Aside0.mk ((by rw [hg]; exact (below_size HB.out) : w.heap.size ≤ gb832)); replace HB := Aside0.mk (below_step HB.out hb); clear hb hbox hg; obtain ⟨Ao9, co9, eo9⟩ := Kd.V_slice HO827.out; subst eo9; have hcz10_0 : w8.cell? ⟨gb832, 0, none⟩ = some (.slice none 0 0) := (blk_cell BK832.out 0).trans rfl; have hcz10_1 : w8.cell? ⟨gb832, 1, none⟩ = some (.slice none 0 0) := (blk_cell BK832.out 1).trans rfl; have hfz10_0 := blk_frozen BK832.out 0; have hfz10_1 := blk_frozen BK832.out 1; obtain ⟨Ao11, co11, eo11⟩ := Kd.V_slice HO830.out; subst eo11) | ((with_reducible refine gate_callee (f := 73) rfl ?_); refine goesL_ (some 16) rfl rfl Try.func73 (by kernel_rfl) rfl #[.agg #[.slice Ao9 t825.length co9, .slice Ao11 t828.length co11]] rfl (by (try simp only [List.map_toArray, List.map_cons, List.map_nil]); rfl) ?_; (with_reducible refine (spec_l4Least.calls k _ _ t825 _ _ t828 t833 _ ?side1 ?side2 ?side3 ?side4 A4.out).mono ?_); (case side1 => refine (Kd.V_reads' (e := 4) (base := w.heap.size) (ok := fun k_ => (True ∧ k_ ≠ gb832)) (n := t825.length) (c := co9) ?_).2.2; exact (by exact (Kd.V_mono (Kd.V_far (p := ⟨gb832, 1, none⟩) (Kd.V_far (p := ⟨gb832, 0, none⟩) (Kd.V_mono HO827.out (fun k_ hk => (⟨hk, hk.2⟩ : _ ∧ k_ ≠ gb832))) (fun _ hk => hk.2) (.slice Ao9 t825.length co9)) (fun _ hk => hk.2) (.slice Ao11 t828.length co11)) (fun _ h_ => h_.1)))); (case side2 => exact (Kd.V_reads' HO827.out).2.1); (case side3 => refine (Kd.V_reads' (e := 4) (base := w.heap.size) (ok := fun k_ => (True ∧ k_ ≠ gb832)) (n := t828.length) (c := co11) ?_).2.2; exact (by exact (Kd.V_mono (Kd.V_far (p := ⟨gb832, 1, none⟩) (Kd.V_far (p := ⟨gb832, 0, none⟩) (Kd.V_mono HO830.out (fun k_ hk => (⟨hk, hk.2⟩ : _ ∧ k_ ≠ gb832))) (fun _ hk => hk.2) (.slice Ao9 t825.length co9)) (fun _ hk => hk.2) (.slice Ao11 t828.length co11)) (fun _ h_ => h_.1)))); (case side4 => exact (Kd.V_reads' HO830.out).2.1); rintro e w12 ⟨rfl, hb⟩; refine ⟨_, rfl, ?_⟩; replace HO827 := Aside0.mk (Kd.V_below (by exact (Kd.V_mono (Kd.V_far (p := ⟨gb832, 1, none⟩) (Kd.V_far (p := ⟨gb832, 0, none⟩) (Kd.V_mono HO827.out (fun k_ hk => (⟨hk, hk.2⟩ : _ ∧ k_ ≠ gb832))) (fun _ hk => hk.2) (.slice Ao9 t825.length co9)) (fun _ hk => hk.2) (.slice Ao11 t828.length co11)) (fun _ h_ => h_.1))) hb); replace HO830 := Aside0.mk (Kd.V_below (by exact (Kd.V_mono (Kd.V_far (p := ⟨gb832, 1, none⟩) (Kd.V_far (p := ⟨gb832, 0, none⟩) (Kd.V_mono HO830.out (fun k_ hk => (⟨hk, hk.2⟩ : _ ∧ k_ ≠ gb832))) (fun _ hk => hk.2) (.slice Ao9 t825.length co9)) (fun _ hk => hk.2) (.slice Ao11 t828.length co11)) (fun _ h_ => h_.1))) hb); replace BK832 := Aside0.mk (blk_below (g := gb832) (o := .cells #[.slice Ao9 t825.length co9, .slice Ao11 t828.length co11] 66 (0, 0)) (by refine blk_put (cs := #[.slice Ao9 t825.length co9, .slice none 0 0]) ?_ 1 _ rfl; refine blk_put (cs := #[.slice none 0 0, .slice none 0 0]) ?_ 0 _ rfl; exact BK832.out) hb); replace HB := Aside0.mk (below_step (by repeat (first | (with_reducible first | exact HB.out | refine below_set ?_ GE832.out))) hb); (try clear hb)) | ((with_reducible refine gate_dst (N := 17) rfl ?_); refine Kd.R_make Kd.bool _ 4 rfl (N := 17) rfl 58 _ _ rfl 1 rfl rfl Try.underlying58 (.bool false) 1 info4 rfl (by decide) (by omega) false (ok := fun _ => True) (okp := fun _ => True) rfl (fun _ hk => hk) trivial (by omega) (by omega) (Below.refl _ _) (Nat.le_refl _) ?_; intro v835 w13 ho14 hb hg_ hnew_; clear hg_ hnew_; (first | (simp only [Int.reduceToNat] at ho14; rw [← Ny834.out] at ho14)); replace HO827 := Aside0.mk (Kd.V_elder' HO827.out (Kd.R_base ho14) hb); replace HO830 := Aside0.mk (Kd.V_elder' HO830.out (Kd.R_base ho14) hb); have HO836 := Aside0.mk (Kd.R_lower ho14 (below_size HB.out)); replace BK832 := Aside0.mk (blk_below (g := gb832) (o := .cells #[.slice Ao9 t825.length co9, .slice Ao11 t828.length co11] 66 (0, 0)) BK832.out hb); replace HB := Aside0.mk (below_step HB.out hb); clear hb ho14))
   go_cut [7] (fun v7 wc => ∃ (kq : Nat) (x7_5 : List Bool), Aside0 (spec_StarPlus.j0 kq t833 x7_5 t825 t828 = some (r1, r2)) ∧ Aside0 (kq ≤ k) ∧ Aside0 (Kd.R Kd.bool 4 wc w.heap.size (fun _ => True) v7 x7_5) ∧ Aside0 (Kd.V Kd.bool 4 wc w.heap.size (fun k_ => some k_ ≠ (v7 : Value).ownBlock ∧ k_ ≠ gb832) (.slice Ao9 t825.length co9) t825) ∧ Aside0 (Kd.V Kd.bool 4 wc w.heap.size (fun k_ => some k_ ≠ (v7 : Value).ownBlock ∧ k_ ≠ gb832) (.slice Ao11 t828.length co11) t828) ∧ Aside0 (wc.heap[gb832]? = some (.cells #[(.slice Ao9 t825.length co9), (.slice Ao11 t828.length co11)] 66 (0, 0))) ∧ Aside0 (Below w.heap.size w wc))
   case first =>
    have H := HC6.out
    clear HC6
    by_cases c15 : t833 > 0
    ·rw [if_pos c15] at H
     have c15b0 : decide (0 < t833) = true := decide_eq_true c15
     clear c15
     (rw [c15b0])
     replace H := Option.bind_eq_some_iff.mp H
     obtain ⟨t837, A160, H⟩ := H
     replace H : (spec_StarPlus.j0 k t833 t837 t825 t828) = some (r1, r2) := H
     have A16 := Aside0.mk A160
     clear A160
     have H' := Aside0.mk H
     clear H
     have hcz17_0 : w13.cell? ⟨gb832, 0, none⟩ = some (.slice Ao9 t825.length co9) := (blk_cell BK832.out 0).trans rfl
     have hcz17_1 : w13.cell? ⟨gb832, 1, none⟩ = some (.slice Ao11 t828.length co11) := (blk_cell BK832.out 1).trans rfl
     have hfz17_0 := blk_frozen BK832.out 0
     have hfz17_1 := blk_frozen BK832.out 1
     go_wp2_with (first | ((with_reducible refine gate_callee (f := 74) rfl ?_); refine goesL_ (some 23) rfl rfl Try.func74 (by kernel_rfl) rfl #[.agg #[.slice Ao9 t825.length co9, .slice Ao11 t828.length co11], .int .i64 (wrap64 (2400 + t833))] rfl (by (try simp only [List.map_toArray, List.map_cons, List.map_nil]); rfl) ?_; (with_reducible refine (spec_l4Star.calls k _ _ t825 _ _ t828 (wrap64 (2400 + t833)) t837 _ ?side1 ?side2 ?side3 ?side4 A16.out).mono ?_); (case side1 => repeat (exact (Kd.V_reads' HO827.out).2.2)); (case side2 => exact (Kd.V_reads' HO827.out).2.1); (case side3 => repeat (exact (Kd.V_reads' HO830.out).2.2)); (case side4 => exact (Kd.V_reads' HO830.out).2.1); rintro e w18 ⟨v838, rfl, ho0, hb⟩; refine ⟨_, rfl, ?_⟩; replace HO827 := Aside0.mk (Kd.V_elder' HO827.out (Kd.R_base ho0) hb); replace HO830 := Aside0.mk (Kd.V_elder' HO830.out (Kd.R_base ho0) hb); have HO839 := Aside0.mk (Kd.R_lower (Kd.R_new' ho0 (Kd.R_lt HO836.out)) (below_size HB.out)); replace HO836 := Aside0.mk (Kd.R_elder' HO836.out (Kd.R_base ho0) hb); replace BK832 := Aside0.mk (blk_below (g := gb832) (o := .cells #[.slice Ao9 t825.length co9, .slice Ao11 t828.length co11] 66 (0, 0)) BK832.out hb); replace HB := Aside0.mk (below_step HB.out hb); (try clear hb); (try clear ho0)))
     go_meet
     case rel => exact ⟨_, (t837), H', ⟨by omega⟩, ⟨by exact Kd.R_mono HO839.out (fun _ hk => trivial)⟩, ⟨by exact Kd.V_mono HO827.out (fun _ hk => ⟨hk.2, hk.1.1.2⟩)⟩, ⟨by exact Kd.V_mono HO830.out (fun _ hk => ⟨hk.2, hk.1.1.2⟩)⟩, ⟨by exact BK832.out⟩, ⟨HB.out⟩⟩
    ·rw [if_neg c15] at H
     have c15b0 : decide (0 < t833) = false := decide_eq_false c15
     clear c15
     (rw [c15b0])
     have H' := Aside0.mk H
     clear H
     go_wp2
     go_meet
     case rel => exact ⟨_, (y834), H', ⟨by omega⟩, ⟨by exact HO836.out⟩, ⟨by exact Kd.V_mono HO827.out (fun _ hk => ⟨hk.2, hk.1.2⟩)⟩, ⟨by exact Kd.V_mono HO830.out (fun _ hk => ⟨hk.2, hk.1.2⟩)⟩, ⟨by exact BK832.out⟩, ⟨HB.out⟩⟩
   case rest =>
    clear HC6
    try clear c5b0
    try clear c5b1
    try clear hcz10_0
    try clear hcz10_1
    try clear hfz10_0
    try clear hfz10_1
    obtain ⟨kq, x7_5, HA, HJ5, HO_7, HO_833000, HO_833001, BK832, HB⟩ := hcut
    cases kq with
    | zero => exact absurd HA.out (by simp [spec_StarPlus.j0])
    | succ kj5 =>
     have H := HA.out
     clear HA
     simp only [spec_StarPlus.j0] at H
     replace H := Option.bind_eq_some_iff.mp H
     obtain ⟨t840, A190, H⟩ := H
     replace H : (if 0 < (x7_5.length : Int) then ((some (x7_5.set (0 : Int).toNat t840 : List Bool)).bind fun y841 => (if t833 = 0 then ((spec_l1Done.f kj5 y841 (([false] : List Bool))).bind fun bt845 => (some (bt845.1, bt845.2))) else ((spec_l2Fill.f kj5 y841 2400).bind fun bt847 => (some (bt847.1, bt847.2))))) else (none)) = some (r1, r2) := H
     have A19 := Aside0.mk A190
     clear A190
     by_cases c20 : 0 < (x7_5.length : Int)
     ·rw [if_pos c20] at H
      have c20b0 : decide (0 < (x7_5.length : Int)) = true := decide_eq_true c20
      have c20b1 : decide (0 < x7_5.length) = true := decide_eq_true (by omega)
      clear c20
      obtain ⟨y841, hy841⟩ : ∃ y_ : List Bool, y_ = (x7_5.set (0 : Int).toNat t840) := ⟨_, rfl⟩
      replace H : (if t833 = 0 then ((spec_l1Done.f kj5 y841 (([false] : List Bool))).bind fun bt845 => (some (bt845.1, bt845.2))) else ((spec_l2Fill.f kj5 y841 2400).bind fun bt847 => (some (bt847.1, bt847.2)))) = some (r1, r2) := by first | (have H2_ := (Option.bind_some _ _).symm.trans H; rw [hy841]; with_reducible exact H2_)
      have Ny841 := Aside0.mk hy841
      clear hy841
      by_cases c22 : t833 = 0
      ·rw [if_pos c22] at H
       have c22b0 : (t833 == 0) = true := beq_iff_eq.mpr c22
       have c22b1 : (t833 != 0) = false := bne_eq_false_iff_eq.mpr c22
       clear c22
       obtain ⟨y842, hy842⟩ : ∃ y_ : List Bool, y_ = (([false] : List Bool)) := ⟨_, rfl⟩
       replace H : ((spec_l1Done.f kj5 y841 y842).bind fun bt845 => (some (bt845.1, bt845.2))) = some (r1, r2) := by first | (rw [hy842]; with_reducible exact H)
       have Ny842 := Aside0.mk hy842
       clear hy842
       replace H := Option.bind_eq_some_iff.mp H
       obtain ⟨⟨t845, t846⟩, A230, H⟩ := H
       replace H : (some (t845, t846)) = some (r1, r2) := H
       have A23 := Aside0.mk A230
       clear A230
       simp only [Option.some.injEq, Prod.mk.injEq] at H
       obtain ⟨rfl, rfl⟩ := H
       have hcz24_0 : wc.cell? ⟨gb832, 0, none⟩ = some (.slice Ao9 t825.length co9) := (blk_cell BK832.out 0).trans rfl
       have hcz24_1 : wc.cell? ⟨gb832, 1, none⟩ = some (.slice Ao11 t828.length co11) := (blk_cell BK832.out 1).trans rfl
       have hfz24_0 := blk_frozen BK832.out 0
       have hfz24_1 := blk_frozen BK832.out 1
       go_wp2_with (first | ((with_reducible refine gate_callee (f := 67) rfl ?_); refine goesL_ (some 26) rfl rfl Try.func67 (by kernel_rfl) rfl #[.agg #[.slice Ao9 t825.length co9, .slice Ao11 t828.length co11], .int .i64 0] rfl (by (try simp only [List.map_toArray, List.map_cons, List.map_nil]); rfl) ?_; (with_reducible refine (spec_l1Has.calls _ _ t825 _ _ t828 0 t840 _ ?side1 ?side2 ?side3 ?side4 A19.out).mono ?_); (case side1 => repeat (exact (Kd.V_reads' HO_833000.out).2.2)); (case side2 => exact (Kd.V_reads' HO_833000.out).2.1); (case side3 => repeat (exact (Kd.V_reads' HO_833001.out).2.2)); (case side4 => exact (Kd.V_reads' HO_833001.out).2.1); rintro e w25 ⟨rfl, hb⟩; refine ⟨_, rfl, ?_⟩; replace HO_7 := Aside0.mk (Kd.R_below HO_7.out hb); replace HO_833000 := Aside0.mk (Kd.V_below HO_833000.out hb); replace HO_833001 := Aside0.mk (Kd.V_below HO_833001.out hb); replace BK832 := Aside0.mk (blk_below (g := gb832) (o := .cells #[.slice Ao9 t825.length co9, .slice Ao11 t828.length co11] 66 (0, 0)) BK832.out hb); replace HB := Aside0.mk (below_step HB.out hb); (try clear hb); have p21 : 0 ≤ (0 : Int) := (by omega); have q21 : (0 : Int) < ((x7_5.length : Int) : Int) := of_decide_eq_true (by (with_reducible assumption)); have qi21 : (0 < x7_5.length) = True := eq_true (by omega); obtain ⟨go21, co21, eo21, gb21, gl21, cl21, HG21⟩ := Kd.R_form HO_7.out (by omega); (cases eo21); have GB21 := Aside0.mk gb21; have GG21 := Aside0.mk HG21; clear gb21 gl21 HG21; obtain ⟨hx21_0, hf21_0⟩ := Kd.R_celln false HO_7.out (0 : Int) p21 q21; (try rw [show ((0 : Int)).toNat = 0 from rfl] at hx21_0); (try rw [show ((0 : Int)).toNat = 0 from rfl] at hf21_0); replace p21 := eq_true p21; replace q21 := eq_true q21; obtain ⟨hy26_, hz26_⟩ := Kd.R_celln false HO_7.out (0 : Int) (by omega) (of_decide_eq_true (by (with_reducible assumption))); (try rw [show ((0 : Int)).toNat = 0 from rfl] at hy26_); (try rw [show ((0 : Int)).toNat = 0 from rfl] at hz26_); have HP26 := Kd.R_putg HO_7.out (0 : Int) t840) | ((with_reducible refine gate_store (t := 4) (p := 27) rfl ?_); refine store_event (t := 4) (p := 27) (v := ?vo_w27) (w1 := (w25.setCell ⟨go21, (0 : Int).toNat, none⟩ (.bool t840))) ?hg ?ho ?hn ?hr ?_; (case ho => rfl); (case hg => rfl); (case hn => rfl); (case hr => first | (go_simp; done)); intro w27 hw; have hg : w25.grownBy w27 (some go21) := (by rw [hw]; exact HP26.2); have hp_ : Kd.R Kd.bool 4 w27 w.heap.size (fun _ => True) (.slice (some ⟨go21, 0, none⟩) x7_5.length co21) y841 := (by rw [hw, Ny841.out]; exact HP26.1); clear HP26; replace HO_833000 := Aside0.mk (Kd.V_afterv (v := (.slice (some ⟨go21, 0, none⟩) x7_5.length co21)) (v1 := (.slice (some ⟨go21, 0, none⟩) x7_5.length co21)) (ok := (fun k_ => k_ ≠ gb832)) (by exact Kd.V_mono HO_833000.out (fun _ hk => ⟨hk.2, hk.1⟩)) hg (.inl rfl)); replace HO_833001 := Aside0.mk (Kd.V_afterv (v := (.slice (some ⟨go21, 0, none⟩) x7_5.length co21)) (v1 := (.slice (some ⟨go21, 0, none⟩) x7_5.length co21)) (ok := (fun k_ => k_ ≠ gb832)) (by exact Kd.V_mono HO_833001.out (fun _ hk => ⟨hk.2, hk.1⟩)) hg (.inl rfl)); replace BK832 := Aside0.mk (blk_grown (g := gb832) (o := .cells #[.slice Ao9 t825.length co9, .slice Ao11 t828.length co11] 66 (0, 0)) BK832.out hg (Kd.R_ne HO_7.out BK832.out (by decide))); replace HO_7 := Aside0.mk hp_; replace HB := Aside0.mk ((by rw [hw]; exact below_set (HB.out) GB21.out : Below w.heap.size w w27)); clear hg hw hp_) | ((with_reducible refine gate_dst (N := 31) rfl ?_); refine Kd.R_lit Kd.bool _ 4 ?hg (N := 31) ?hd (xs := ([false] : List Bool)) (inner := [.bool false]) (ok := fun _ => True) (okp := fun _ => True) ?hr ?hp (fun _ hk => hk) trivial (Below.refl _ _) (Nat.le_refl _) (by simp) ?_; (case hd => rfl); (case hg => rfl); (case hr => first | (go_simp; done)); (case hp => exact (Reps.one (show Kd.M Kd.bool _ _ _ false [.bool false] from rfl) (Reps.none _ _))); intro v843 w28 ho29 hb hg_ hnew_; clear hg_ hnew_; (rw [← Ny842.out] at ho29); replace HO_833000 := Aside0.mk (Kd.V_elder' HO_833000.out (Kd.R_base ho29) hb); replace HO_833001 := Aside0.mk (Kd.V_elder' HO_833001.out (Kd.R_base ho29) hb); have HO844 := Aside0.mk (Kd.R_lower (Kd.R_new' ho29 (Kd.R_lt HO_7.out)) (below_size HB.out)); replace HO_7 := Aside0.mk (Kd.R_elder' HO_7.out (Kd.R_base ho29) hb); replace BK832 := Aside0.mk (blk_below (g := gb832) (o := .cells #[.slice Ao9 t825.length co9, .slice Ao11 t828.length co11] 66 (0, 0)) BK832.out hb); replace HB := Aside0.mk (below_step HB.out hb); clear hb ho29; obtain ⟨Ao30, co30, eo30⟩ := Kd.R_slice HO844.out; subst eo30) | ((with_reducible refine gate_callee (f := 75) rfl ?_); refine goesL_ (some 33) rfl rfl Try.func75 (by kernel_rfl) rfl #[.agg #[.slice (some ⟨go21, 0, none⟩) y841.length co21, .slice Ao30 y842.length co30]] rfl (by (try simp only [List.map_toArray, List.map_cons, List.map_nil]); first | (rw [show y841.length = x7_5.length from (Kd.R_reads' HO_7.out).1.symm] <;> rfl)) ?_; (with_reducible refine (spec_l1Done.calls kj5 _ _ y841 _ _ y842 t845 t846 _ ?side1 ?side2 ?side3 ?side4 A23.out).mono ?_); (case side1 => repeat (exact (Kd.R_reads' HO_7.out).2.2)); (case side2 => rw [show y841.length = x7_5.length from (Kd.R_reads' HO_7.out).1.symm]; exact (Kd.R_reads' HO_7.out).2.1); (case side3 => repeat (exact (Kd.R_reads' HO844.out).2.2)); (case side4 => exact (Kd.R_reads' HO844.out).2.1); rintro e w31 ⟨rfl, hb⟩; refine ⟨_, rfl, ?_⟩; replace HO_7 := Aside0.mk (Kd.R_below HO_7.out hb); replace HO_833000 := Aside0.mk (Kd.V_below HO_833000.out hb); replace HO_833001 := Aside0.mk (Kd.V_below HO_833001.out hb); replace HO844 := Aside0.mk (Kd.R_below HO844.out hb); replace BK832 := Aside0.mk (blk_below (g := gb832) (o := .cells #[.slice Ao9 t825.length co9, .slice Ao11 t828.length co11] 66 (0, 0)) BK832.out hb); replace HB := Aside0.mk (below_step HB.out hb); (try clear hb)))
       go_ret2
       exact ⟨by first | rfl | (simp [*, errW_none, errW_some] <;> rfl), HB.out⟩
      ·rw [if_neg c22] at H
       have c22b0 : (t833 == 0) = false := beq_eq_false_iff_ne.mpr c22
       have c22b1 : (t833 != 0) = true := bne_iff_ne.mpr c22
       replace H := Option.bind_eq_some_iff.mp H
       obtain ⟨⟨t847, t848⟩, A320, H⟩ := H
       replace H : (some (t847, t848)) = some (r1, r2) := H
       have A32 := Aside0.mk A320
       clear A320
       simp only [Option.some.injEq, Prod.mk.injEq] at H
       obtain ⟨rfl, rfl⟩ := H
       have hcz33_0 : wc.cell? ⟨gb832, 0, none⟩ = some (.slice Ao9 t825.length co9) := (blk_cell BK832.out 0).trans rfl
       have hcz33_1 : wc.cell? ⟨gb832, 1, none⟩ = some (.slice Ao11 t828.length co11) := (blk_cell BK832.out 1).trans rfl
       have hfz33_0 := blk_frozen BK832.out 0
       have hfz33_1 := blk_frozen BK832.out 1
       go_wp2_with (first | ((with_reducible refine gate_callee (f := 67) rfl ?_); refine goesL_ (some 26) rfl rfl Try.func67 (by kernel_rfl) rfl #[.agg #[.slice Ao9 t825.length co9, .slice Ao11 t828.length co11], .int .i64 0] rfl (by (try simp only [List.map_toArray, List.map_cons, List.map_nil]); rfl) ?_; (with_reducible refine (spec_l1Has.calls _ _ t825 _ _ t828 0 t840 _ ?side1 ?side2 ?side3 ?side4 A19.out).mono ?_); (case side1 => repeat (exact (Kd.V_reads' HO_833000.out).2.2)); (case side2 => exact (Kd.V_reads' HO_833000.out).2.1); (case side3 => repeat (exact (Kd.V_reads' HO_833001.out).2.2)); (case side4 => exact (Kd.V_reads' HO_833001.out).2.1); rintro e w34 ⟨rfl, hb⟩; refine ⟨_, rfl, ?_⟩; replace HO_7 := Aside0.mk (Kd.R_below HO_7.out hb); replace HO_833000 := Aside0.mk (Kd.V_below HO_833000.out hb); replace HO_833001 := Aside0.mk (Kd.V_below HO_833001.out hb); replace BK832 := Aside0.mk (blk_below (g := gb832) (o := .cells #[.slice Ao9 t825.length co9, .slice Ao11 t828.length co11] 66 (0, 0)) BK832.out hb); replace HB := Aside0.mk (below_step HB.out hb); (try clear hb); have p21 : 0 ≤ (0 : Int) := (by omega); have q21 : (0 : Int) < ((x7_5.length : Int) : Int) := of_decide_eq_true (by (with_reducible assumption)); have qi21 : (0 < x7_5.length) = True := eq_true (by omega); obtain ⟨go21, co21, eo21, gb21, gl21, cl21, HG21⟩ := Kd.R_form HO_7.out (by omega); (cases eo21); have GB21 := Aside0.mk gb21; have GG21 := Aside0.mk HG21; clear gb21 gl21 HG21; obtain ⟨hx21_0, hf21_0⟩ := Kd.R_celln false HO_7.out (0 : Int) p21 q21; (try rw [show ((0 : Int)).toNat = 0 from rfl] at hx21_0); (try rw [show ((0 : Int)).toNat = 0 from rfl] at hf21_0); replace p21 := eq_true p21; replace q21 := eq_true q21; obtain ⟨hy35_, hz35_⟩ := Kd.R_celln false HO_7.out (0 : Int) (by omega) (of_decide_eq_true (by (with_reducible assumption))); (try rw [show ((0 : Int)).toNat = 0 from rfl] at hy35_); (try rw [show ((0 : Int)).toNat = 0 from rfl] at hz35_); have HP35 := Kd.R_putg HO_7.out (0 : Int) t840) | ((with_reducible refine gate_store (t := 4) (p := 27) rfl ?_); refine store_event (t := 4) (p := 27) (v := ?vo_w36) (w1 := (w34.setCell ⟨go21, (0 : Int).toNat, none⟩ (.bool t840))) ?hg ?ho ?hn ?hr ?_; (case ho => rfl); (case hg => rfl); (case hn => rfl); (case hr => first | (go_simp; done)); intro w36 hw; have hg : w34.grownBy w36 (some go21) := (by rw [hw]; exact HP35.2); have hp_ : Kd.R Kd.bool 4 w36 w.heap.size (fun _ => True) (.slice (some ⟨go21, 0, none⟩) x7_5.length co21) y841 := (by rw [hw, Ny841.out]; exact HP35.1); clear HP35; replace HO_833000 := Aside0.mk (Kd.V_afterv (v := (.slice (some ⟨go21, 0, none⟩) x7_5.length co21)) (v1 := (.slice (some ⟨go21, 0, none⟩) x7_5.length co21)) (ok := (fun k_ => k_ ≠ gb832)) (by exact Kd.V_mono HO_833000.out (fun _ hk => ⟨hk.2, hk.1⟩)) hg (.inl rfl)); replace HO_833001 := Aside0.mk (Kd.V_afterv (v := (.slice (some ⟨go21, 0, none⟩) x7_5.length co21)) (v1 := (.slice (some ⟨go21, 0, none⟩) x7_5.length co21)) (ok := (fun k_ => k_ ≠ gb832)) (by exact Kd.V_mono HO_833001.out (fun _ hk => ⟨hk.2, hk.1⟩)) hg (.inl rfl)); replace BK832 := Aside0.mk (blk_grown (g := gb832) (o := .cells #[.slice Ao9 t825.length co9, .slice Ao11 t828.length co11] 66 (0, 0)) BK832.out hg (Kd.R_ne HO_7.out BK832.out (by decide))); replace HO_7 := Aside0.mk hp_; replace HB := Aside0.mk ((by rw [hw]; exact below_set (HB.out) GB21.out : Below w.heap.size w w36)); clear hg hw hp_) | ((with_reducible refine gate_callee (f := 76) rfl ?_); refine goesL_ (some 37) rfl rfl Try.func76 (by kernel_rfl) rfl #[.slice (some ⟨go21, 0, none⟩) y841.length co21, .int .i64 2400] rfl (by (try simp only [List.map_toArray, List.map_cons, List.map_nil]); first | (rw [show y841.length = x7_5.length from (Kd.R_reads' HO_7.out).1.symm] <;> rfl)) ?_; (with_reducible refine (spec_l2Fill.calls kj5 _ _ y841 2400 t847 t848 _ ?side1 ?side2 A32.out).mono ?_); (case side1 => repeat (exact (Kd.R_reads' HO_7.out).2.2)); (case side2 => rw [show y841.length = x7_5.length from (Kd.R_reads' HO_7.out).1.symm]; exact (Kd.R_reads' HO_7.out).2.1); rintro e w37 ⟨rfl, hb⟩; refine ⟨_, rfl, ?_⟩; replace HO_7 := Aside0.mk (Kd.R_below HO_7.out hb); replace HO_833000 := Aside0.mk (Kd.V_below HO_833000.out hb); replace HO_833001 := Aside0.mk (Kd.V_below HO_833001.out hb); replace BK832 := Aside0.mk (blk_below (g := gb832) (o := .cells #[.slice Ao9 t825.length co9, .slice Ao11 t828.length co11] 66 (0, 0)) BK832.out hb); replace HB := Aside0.mk (below_step HB.out hb); (try clear hb)))
       go_ret2
       exact ⟨by first | rfl | (simp [*, errW_none, errW_some] <;> rfl), HB.out⟩
     ·rw [if_neg c20] at H
      exact absurd H (by simp)
  ·rw [if_neg c5] at H
   exact absurd H (by simp)
 ·replace c3 := Bool.eq_false_iff.mpr c3
  subst c3
  replace H : (some ((⟨#[]⟩ : ByteArray), false)) = some (r1, r2) := by rw [if_neg (show ¬ (false = true) by decide)] at H; exact H
  simp only [Option.some.injEq, Prod.mk.injEq] at H
  obtain ⟨rfl, rfl⟩ := H
  go_enter Try.func30, Try.ntmps30
  go_wp2_with (first | ((with_reducible refine gate_callee (f := 57) rfl ?_); refine goesL_ (some 10) rfl rfl Try.func57 (by kernel_rfl) rfl #[.string a0] rfl (by (try simp only [List.map_toArray, List.map_cons, List.map_nil]); rfl) ?_; (with_reducible refine (spec_l4Small.calls k a0 t825 t828 false _ A2.out).mono ?_); rintro e w38 ⟨v826, v829, rfl, ho0, ho1, hb⟩; refine ⟨_, rfl, ?_⟩; have HO827 := Aside0.mk (Kd.V_lower (Kd.V_mono (ok' := fun k_ => True) ho0 (fun k_ hk_ => trivial)) (below_size HB.out)); have HO830 := Aside0.mk (Kd.V_lower (Kd.V_mono (ok' := fun k_ => True) ho1 (fun k_ hk_ => trivial)) (below_size HB.out)); replace HB := Aside0.mk (below_step HB.out hb); (try clear hb); (try clear ho0); (try clear ho1)) | ((with_reducible refine gate_dst (N := 4) rfl ?_); refine box_event ?hg (N := 4) ?hd (cs := #[.slice none 0 0, .slice none 0 0]) (t := 66) ?hr ?_; (case hd => rfl); (case hg => rfl); (case hr => first | (go_simp; done)); intro gb832 hg w39 hbox hb; replace HO827 := Aside0.mk (Kd.V_below (Kd.V_elderB HO827.out gb832 (Nat.le_of_eq hg.symm)) hb); replace HO830 := Aside0.mk (Kd.V_below (Kd.V_elderB HO830.out gb832 (Nat.le_of_eq hg.symm)) hb); have BK832 := Aside0.mk hbox; have GW832 := Aside0.mk ((by rw [hg]; exact (below_size HB.out) : w.heap.size ≤ gb832)); have GE832 := Aside0.mk ((by rw [hg]; exact (below_size HB.out) : w.heap.size ≤ gb832)); replace HB := Aside0.mk (below_step HB.out hb); clear hb hbox hg; obtain ⟨Ao40, co40, eo40⟩ := Kd.V_slice HO827.out; subst eo40; have hcz41_0 : w39.cell? ⟨gb832, 0, none⟩ = some (.slice none 0 0) := (blk_cell BK832.out 0).trans rfl; have hcz41_1 : w39.cell? ⟨gb832, 1, none⟩ = some (.slice none 0 0) := (blk_cell BK832.out 1).trans rfl; have hfz41_0 := blk_frozen BK832.out 0; have hfz41_1 := blk_frozen BK832.out 1; obtain ⟨Ao42, co42, eo42⟩ := Kd.V_slice HO830.out; subst eo42))
  go_ret2
  exact ⟨by first | rfl | (simp [*, errW_none, errW_some] <;> rfl), by repeat (first | (with_reducible first | exact HB.out | refine below_set ?_ GE832.out))⟩


def impl_in.f (a0 : Int) (a1 : Int) (a2 : Int) : Option (Bool) := if a0 ≥ a1 then (some (decide (a0 ≤ a2))) else (some false)
set_option maxHeartbeats 8000000 in
set_option maxRecDepth 100000 in
theorem impl_in.calls (a0 : Int) (a1 : Int) (a2 : Int) (r : Bool) (w : World) (h : impl_in.f a0 a1 a2 = some r) :
  Calls Try.prog 55 #[.int .i64 a0, .int .i64 a1, .int .i64 a2] w fun e w' => e = .returned (.bool r) ∧ Drawn0 w w' := by
 have H : (if a0 ≥ a1 then (some (decide (a0 ≤ a2))) else (some false)) = some r := h
 clear h
 by_cases c4 : a0 ≥ a1
 ·rw [if_pos c4] at H
  have c4b0 : decide (a1 ≤ a0) = true := decide_eq_true c4
  clear c4
  obtain rfl := Option.some.inj H
  go_enter Try.func55, Try.ntmps55
  go_wp2
  go_ret
  exact ⟨by first | rfl | (simp [*]; done), by repeat (exact Drawn0.refl _)⟩
 ·rw [if_neg c4] at H
  have c4b0 : decide (a1 ≤ a0) = false := decide_eq_false c4
  clear c4
  obtain rfl := Option.some.inj H
  go_enter Try.func55, Try.ntmps55
  go_wp2
  go_ret
  exact ⟨by first | rfl | (simp [*]; done), by repeat (exact Drawn0.refl _)⟩


theorem slices_IndexFunc_int_int.goesV_ {P : Program} {ops : Array Oper} {Q : Exit → Act → World → Prop} {oi : Oper} {N : Option Tmp} {a : Act} {w : World} {K : Act → World → Prop} {c : Operand} {g : FuncId} {lb : Array Value} (eg : ∀ args w, (callFunc g args).run P w = .ok (.enter g args) w) {ars : Array Operand} {ts : Array TypeId} (args : Array Value)
  (hw : Region.wanted oi (yielded ops a.tmps) = true) (hN : oi.dst = N) (hop : oi.op = .call { callee := .value c, args := ars, argTypes := ts }) (hc : a.eval c = .func (.func g) #[] lb) (hargs : ars.map a.eval = args)
  (h : Calls P g (args ++ lb) w fun e w' => ∃ v, e = .returned v ∧ K (a.put N v) w') : if Region.wanted oi (yielded ops a.tmps) = true then Oper.wp P oi a w K Q else K (a.put N undef) w := by
 refine call_ g (args ++ lb) hw hN ?_ h
 have he := eg (args ++ lb) w
 unfold execOp
 simp [hop, hc, resolve, Deferred.ofValue, invoke, hargs, he]
theorem slices_IndexFunc_int_int.goesVL_ {P : Program} {ops : Array Oper} {Q : Exit → Act → World → Prop} {rest : List Oper} {oi : Oper} {a : Act} {w : World} (N : Option Tmp) (hd : oi.dst = N) (hg : oi.guard = none) {c : Operand} {g : FuncId} {lb : Array Value} (eg : ∀ args w, (callFunc g args).run P w = .ok (.enter g args) w) {ars : Array Operand} {ts : Array TypeId} (args : Array Value)
  (hop : oi.op = .call { callee := .value c, args := ars, argTypes := ts }) (hc : a.eval c = .func (.func g) #[] lb) (hargs : ars.map a.eval = args)
  (h : Calls P g (args ++ lb) w fun e w' => ∃ v, e = .returned v ∧ wpList P ops Q rest (a.put N v) w') : wpList P ops Q (oi :: rest) a w := by
 refine wpList_plain hg fun K hK => ?_
 have he := eg (args ++ lb) w
 have hrun : (execOp a.eval oi).run P w = .ok (.enter g (args ++ lb)) w := by
  unfold execOp
  simp [hop, hc, resolve, Deferred.ofValue, invoke, hargs, he]
 unfold Oper.wp
 rw [hrun, Oper.upon_enter]
 refine h.mono fun e w'' hh => ?_
 obtain ⟨v, rfl, hk⟩ := hh
 subst hd
 exact hK _ _ hk
def slices_IndexFunc_int_int.l0 (p_ : Int → Option Bool) : Nat → List Int → Int → Int → Option (Int)
 | 0, _, _, _ => none
 | k + 1, x0, x7, x8 => if x8 < x7 then (if 0 ≤ x8 then (if x8 < (x0.length : Int) then ((p_ (rd x0 x8)).bind fun t850 => (if t850 = true then (some x8) else (slices_IndexFunc_int_int.l0 p_ k x0 x7 (wrap64 (x8 + 1))))) else (none)) else (none)) else (some (-1))
def slices_IndexFunc_int_int.f (k : Nat) (l0 : List Int) (p_ : Int → Option Bool) : Option (Int) := slices_IndexFunc_int_int.l0 p_ k l0 (l0.length : Int) 0
theorem slices_IndexFunc_int_int.mono_l (p_ q_ : Int → Option Bool) (hp_ : ∀ n, LeO (p_ n) (q_ n)) : ∀ k, (∀ y0 y1 y2, LeO (slices_IndexFunc_int_int.l0 p_ k y0 y1 y2) (slices_IndexFunc_int_int.l0 q_ (k + 1) y0 y1 y2))
 | 0 => fun _ _ _ r h => by simp [slices_IndexFunc_int_int.l0] at h
 | k + 1 => by
  have ih0 := slices_IndexFunc_int_int.mono_l p_ q_ hp_ k
  ·intro y0 y1 y2
   unfold slices_IndexFunc_int_int.l0
   repeat' first
   |(with_reducible exact hp_ _)
   |(with_reducible exact ih0 _ _ _)
   |(with_reducible exact LeO.refl _)
   |(with_reducible exact LeO.none _)
   |(with_reducible refine LeO.ite ?_ ?_)
   |(with_reducible refine LeO.bind ?_ (fun _ => ?_))
   |exact ih0 _ _ _
   |exact LeO.none _
   |refine LeO.ite ?_ ?_
   |refine LeO.bind ?_ (fun _ => ?_)
theorem slices_IndexFunc_int_int.mono (p_ q_ : Int → Option Bool) (hp_ : ∀ n, LeO (p_ n) (q_ n)) : ∀ a0 k, LeO (slices_IndexFunc_int_int.f k a0 p_) (slices_IndexFunc_int_int.f (k + 1) a0 q_) := by
 intro a0 k
 have ih0 := slices_IndexFunc_int_int.mono_l p_ q_ hp_ k
 unfold slices_IndexFunc_int_int.f
 repeat' first
 |(with_reducible exact hp_ _)
   |(with_reducible exact ih0 _ _ _)
   |(with_reducible exact LeO.refl _)
   |(with_reducible exact LeO.none _)
   |(with_reducible refine LeO.ite ?_ ?_)
   |(with_reducible refine LeO.bind ?_ (fun _ => ?_))
   |exact ih0 _ _ _
   |exact LeO.none _
   |refine LeO.ite ?_ ?_
   |refine LeO.bind ?_ (fun _ => ?_)
set_option maxHeartbeats 8000000 in
set_option maxRecDepth 100000 in
theorem slices_IndexFunc_int_int.calls (k : Nat) (A0 : Option Addr) (c0 : Nat) (l0 : List Int) (p_ : Int → Option Bool) (g_ : Nat) (lb_ : Array Value) (r : Int) (w : World) (hr0 : Kd.C (Kd.int .i64) w A0 l0.length l0) (hc0 : l0.length ≤ c0) (eg_ : ∀ args w, (callFunc g_ args).run Try.prog w = .ok (.enter g_ args) w) (hp_ : ∀ (n : Int) (b : Bool) (W : World), Below w.heap.size w W → p_ n = some b → Calls Try.prog g_ (#[.int .i64 n] ++ lb_) W fun e W' => e = .returned (.bool b) ∧ Below W.heap.size W W') (h : slices_IndexFunc_int_int.f k l0 p_ = some r) :
  Calls Try.prog 111 #[.slice A0 l0.length c0, .func (.func g_) #[] lb_] w fun e w' => e = .returned (.int .i64 r) ∧ Below w.heap.size w w' := by
 have HR0 := Aside0.mk hr0
 have HC0 := Aside0.mk hc0
 clear hr0 hc0
 have HB := Aside0.mk (Below.refl w.heap.size w)
 have H : (slices_IndexFunc_int_int.l0 p_ k l0 (l0.length : Int) 0) = some r := h
 clear h
 have H' := Aside0.mk H
 clear H
 go_enter Try.func111, Try.ntmps111
 go_wp2
 go_loopg [8] k (fun kq v8 w' => ∃ (x8_1 : Int), v8 = .int .i64 x8_1 ∧ Aside0 (slices_IndexFunc_int_int.l0 p_ kq l0 (l0.length : Int) x8_1 = some r) ∧ Aside0 (kq ≤ k) ∧ Aside0 (Below w.heap.size w w'))
 case atStart => exact ⟨(0), (by first | rfl | (simp; done) | (simp [*]; done) | (simp [Int.tmod_eq_emod_of_nonneg]; done)), H', ⟨Nat.le_refl _⟩, ⟨by repeat (first | (with_reducible first | exact HB.out | apply below_alloc | apply pw_below_drewN | apply below_drew1) | exact HB.out)⟩⟩
 case round =>
  clear H'
  try clear c1
  try clear p2
  obtain ⟨x8_1, rfl, HA, HK1, HB⟩ := hrel
  cases gk with
  | zero => exact absurd HA.out (by simp [slices_IndexFunc_int_int.l0])
  | succ k1 =>
   have H := HA.out
   clear HA
   simp only [slices_IndexFunc_int_int.l0] at H
   by_cases c3 : x8_1 < (l0.length : Int)
   ·rw [if_pos c3] at H
    have c3b0 : decide (x8_1 < (l0.length : Int)) = true := decide_eq_true c3
    clear c3
    by_cases c4 : 0 ≤ x8_1
    ·rw [if_pos c4] at H
     have c4b0 : decide (0 ≤ x8_1) = true := decide_eq_true c4
     clear c4
     by_cases c5 : x8_1 < (l0.length : Int)
     ·rw [if_pos c5] at H
      have c5b0 : decide (x8_1 < (l0.length : Int)) = true := decide_eq_true c5
      clear c5
      replace H := Option.bind_eq_some_iff.mp H
      obtain ⟨t850, A60, H⟩ := H
      replace H : (if t850 = true then (some x8_1) else (slices_IndexFunc_int_int.l0 p_ k1 l0 (l0.length : Int) (wrap64 (x8_1 + 1)))) = some r := H
      have A6 := Aside0.mk A60
      clear A60
      by_cases c7 : t850 = true
      ·subst c7
       replace H : (some x8_1) = some r := by rw [if_pos rfl] at H; exact H
       obtain rfl := Option.some.inj H
       have p849 : 0 ≤ (x8_1 : Int) := of_decide_eq_true (by first | (with_reducible assumption) | assumption)
       have q849 : x8_1 < (l0.length : Int) := of_decide_eq_true (by first | (with_reducible assumption) | assumption)
       obtain ⟨ad849, e849, hx849_0⟩ := Kd.at_int HR0.out x8_1 p849 q849
       cases e849
       replace hx849_0 := (HB.out.cell (World.block_lt_of_cell? w _ hx849_0)).trans hx849_0
       replace p849 := eq_true p849
       replace q849 := eq_true q849
       go_wp2_with (first | (refine slices_IndexFunc_int_int.goesVL_ (some 16) rfl rfl eg_ #[.int .i64 (rd l0 x8_1)] rfl (by rfl) (by (try simp only [List.map_toArray, List.map_cons, List.map_nil]); first | done | rfl | (simp only [List.length_drop, List.length_take]; rfl)) ?_; (refine (hp_ (rd l0 x8_1) true _ (by repeat (first | (with_reducible first | exact HB.out | apply below_alloc | apply pw_below_drewN | apply below_drew1) | exact HB.out)) A6.out).mono ?_); rintro e w8 ⟨rfl, hb⟩; refine ⟨_, rfl, ?_⟩; replace HB := Aside0.mk (below_step (by repeat (first | (with_reducible first | exact HB.out | apply below_alloc | apply pw_below_drewN | apply below_drew1) | exact HB.out)) hb); (try clear hb); (try clear hb2); (try clear hk); (try clear hi)))
       go_ret
       exact ⟨by first | rfl | (simp [errW_none, errW_some] <;> rfl) | (simp [errW_none, errW_some]; exact ⟨rfl, rfl⟩) | (simp [errW_none, errW_some]; exact ⟨rfl, rfl, rfl⟩) | (simp [*, errW_none, errW_some] <;> rfl), by repeat (first | (with_reducible first | exact HB.out | apply below_alloc | apply pw_below_drewN | apply below_drew1) | exact HB.out)⟩
      ·replace c7 := Bool.eq_false_iff.mpr c7
       subst c7
       replace H : (slices_IndexFunc_int_int.l0 p_ k1 l0 (l0.length : Int) (wrap64 (x8_1 + 1))) = some r := by rw [if_neg (show ¬ (false = true) by decide)] at H; exact H
       have H' := Aside0.mk H
       clear H
       have p849 : 0 ≤ (x8_1 : Int) := of_decide_eq_true (by first | (with_reducible assumption) | assumption)
       have q849 : x8_1 < (l0.length : Int) := of_decide_eq_true (by first | (with_reducible assumption) | assumption)
       obtain ⟨ad849, e849, hx849_0⟩ := Kd.at_int HR0.out x8_1 p849 q849
       cases e849
       replace hx849_0 := (HB.out.cell (World.block_lt_of_cell? w _ hx849_0)).trans hx849_0
       replace p849 := eq_true p849
       replace q849 := eq_true q849
       go_wp2_with (first | (refine slices_IndexFunc_int_int.goesVL_ (some 16) rfl rfl eg_ #[.int .i64 (rd l0 x8_1)] rfl (by rfl) (by (try simp only [List.map_toArray, List.map_cons, List.map_nil]); first | done | rfl | (simp only [List.length_drop, List.length_take]; rfl)) ?_; (refine (hp_ (rd l0 x8_1) false _ (by repeat (first | (with_reducible first | exact HB.out | apply below_alloc | apply pw_below_drewN | apply below_drew1) | exact HB.out)) A6.out).mono ?_); rintro e w9 ⟨rfl, hb⟩; refine ⟨_, rfl, ?_⟩; replace HB := Aside0.mk (below_step (by repeat (first | (with_reducible first | exact HB.out | apply below_alloc | apply pw_below_drewN | apply below_drew1) | exact HB.out)) hb); (try clear hb); (try clear hb2); (try clear hk); (try clear hi)))
       go_roundg k1
       case measure => have := HK1.out; omega
       case rel => exact ⟨(wrap64 (x8_1 + 1)), (by first | rfl | (simp; done) | (simp [*]; done) | (simp [Int.tmod_eq_emod_of_nonneg]; done)), H', ⟨by have := HK1.out; omega⟩, ⟨by repeat (first | (with_reducible first | exact HB.out | apply below_alloc | apply pw_below_drewN | apply below_drew1) | exact HB.out)⟩⟩
     ·rw [if_neg c5] at H
      exact absurd H (by simp)
    ·rw [if_neg c4] at H
     exact absurd H (by simp)
   ·rw [if_neg c3] at H
    have c3b0 : decide (x8_1 < (l0.length : Int)) = false := decide_eq_false c3
    clear c3
    obtain rfl := Option.some.inj H
    go_wp2
    go_ret
    exact ⟨by first | rfl | (simp [errW_none, errW_some] <;> rfl) | (simp [errW_none, errW_some]; exact ⟨rfl, rfl⟩) | (simp [errW_none, errW_some]; exact ⟨rfl, rfl, rfl⟩) | (simp [*, errW_none, errW_some] <;> rfl), by repeat (first | (with_reducible first | exact HB.out | apply below_alloc | apply pw_below_drewN | apply below_drew1) | exact HB.out)⟩


def slices_Index_int_int.l0 : Nat → List Int → Int → Int → Int → Option (Int)
 | 0, _, _, _, _ => none
 | k + 1, x0, x1, x7, x8 => if x8 < x7 then (if 0 ≤ x8 then (if x8 < (x0.length : Int) then (if x1 = (rd x0 x8) then (some x8) else (slices_Index_int_int.l0 k x0 x1 x7 (wrap64 (x8 + 1)))) else (none)) else (none)) else (some (-1))
def slices_Index_int_int.f (k : Nat) (l0 : List Int) (a1 : Int) : Option (Int) := slices_Index_int_int.l0 k l0 a1 (l0.length : Int) 0
theorem slices_Index_int_int.mono_l : ∀ k, (∀ y0 y1 y2 y3, LeO (slices_Index_int_int.l0 k y0 y1 y2 y3) (slices_Index_int_int.l0 (k + 1) y0 y1 y2 y3))
 | 0 => fun _ _ _ _ r h => by simp [slices_Index_int_int.l0] at h
 | k + 1 => by
  have ih0 := slices_Index_int_int.mono_l k
  ·intro y0 y1 y2 y3
   unfold slices_Index_int_int.l0
   repeat' first | (with_reducible exact ih0 _ _ _ _) | (with_reducible exact LeO.refl _) | (with_reducible refine LeO.ite ?_ ?_)
theorem slices_Index_int_int.mono : ∀ a0 a1 k, LeO (slices_Index_int_int.f k a0 a1) (slices_Index_int_int.f (k + 1) a0 a1) := by
 intro a0 a1 k
 have ih0 := slices_Index_int_int.mono_l k
 unfold slices_Index_int_int.f
 repeat' (with_reducible exact ih0 _ _ _ _)
set_option maxHeartbeats 8000000 in
set_option maxRecDepth 100000 in
theorem slices_Index_int_int.calls (k : Nat) (A0 : Option Addr) (c0 : Nat) (l0 : List Int) (a1 : Int) (r : Int) (w : World) (hr0 : Kd.C (Kd.int .i64) w A0 l0.length l0) (hc0 : l0.length ≤ c0) (h : slices_Index_int_int.f k l0 a1 = some r) :
  Calls Try.prog 95 #[.slice A0 l0.length c0, .int .i64 a1] w fun e w' => e = .returned (.int .i64 r) ∧ Drawn0 w w' := by
 have HR0 := Aside0.mk hr0
 have HC0 := Aside0.mk hc0
 clear hr0 hc0
 have H : (slices_Index_int_int.l0 k l0 a1 (l0.length : Int) 0) = some r := h
 clear h
 have H' := Aside0.mk H
 clear H
 go_enter Try.func95, Try.ntmps95
 go_wp2
 go_loopg [8] k (fun kq v8 w' => ∃ (x8_1 : Int), v8 = .int .i64 x8_1 ∧ Aside0 (slices_Index_int_int.l0 kq l0 a1 (l0.length : Int) x8_1 = some r) ∧ Aside0 (kq ≤ k) ∧ Drawn0 w w')
 case atStart => exact ⟨(0), (by rfl), H', ⟨Nat.le_refl _⟩, by repeat (exact Drawn0.refl _)⟩
 case round =>
  clear H'
  obtain ⟨x8_1, rfl, HA, HK1, ⟨m1, rfl⟩⟩ := hrel
  cases gk with
  | zero => exact absurd HA.out (by simp [slices_Index_int_int.l0])
  | succ k1 =>
   have H := HA.out
   clear HA
   simp only [slices_Index_int_int.l0] at H
   by_cases c3 : x8_1 < (l0.length : Int)
   ·rw [if_pos c3] at H
    have c3b0 : decide (x8_1 < (l0.length : Int)) = true := decide_eq_true c3
    clear c3
    by_cases c4 : 0 ≤ x8_1
    ·rw [if_pos c4] at H
     have c4b0 : decide (0 ≤ x8_1) = true := decide_eq_true c4
     clear c4
     by_cases c5 : x8_1 < (l0.length : Int)
     ·rw [if_pos c5] at H
      have c5b0 : decide (x8_1 < (l0.length : Int)) = true := decide_eq_true c5
      clear c5
      by_cases c6 : a1 = (rd l0 x8_1)
      ·rw [if_pos c6] at H
       have c6b0 : (a1 == (rd l0 x8_1)) = true := beq_iff_eq.mpr c6
       have c6b1 : (a1 != (rd l0 x8_1)) = false := bne_eq_false_iff_eq.mpr c6
       clear c6
       obtain rfl := Option.some.inj H
       have p1026 : 0 ≤ (x8_1 : Int) := of_decide_eq_true (by (with_reducible assumption))
       have q1026 : x8_1 < (l0.length : Int) := of_decide_eq_true (by (with_reducible assumption))
       obtain ⟨ad1026, e1026, hx1026_0⟩ := Kd.at_int HR0.out x8_1 p1026 q1026
       cases e1026
       replace p1026 := eq_true p1026
       replace q1026 := eq_true q1026
       go_wp2
       go_ret
       exact ⟨by first | rfl | (simp [*]; done), by repeat (first | exact Drawn0.refl _ | apply Drawn0.step)⟩
      ·rw [if_neg c6] at H
       have c6b0 : (a1 == (rd l0 x8_1)) = false := beq_eq_false_iff_ne.mpr c6
       have c6b1 : (a1 != (rd l0 x8_1)) = true := bne_iff_ne.mpr c6
       have H' := Aside0.mk H
       clear H
       have p1026 : 0 ≤ (x8_1 : Int) := of_decide_eq_true (by (with_reducible assumption))
       have q1026 : x8_1 < (l0.length : Int) := of_decide_eq_true (by (with_reducible assumption))
       obtain ⟨ad1026, e1026, hx1026_0⟩ := Kd.at_int HR0.out x8_1 p1026 q1026
       cases e1026
       replace p1026 := eq_true p1026
       replace q1026 := eq_true q1026
       go_wp2
       go_roundg k1
       case measure => have := HK1.out; omega
       case rel => exact ⟨(wrap64 (x8_1 + 1)), (by rfl), H', ⟨by have := HK1.out; omega⟩, by repeat (first | exact Drawn0.refl _ | apply Drawn0.step)⟩
     ·rw [if_neg c5] at H
      exact absurd H (by simp)
    ·rw [if_neg c4] at H
     exact absurd H (by simp)
   ·rw [if_neg c3] at H
    have c3b0 : decide (x8_1 < (l0.length : Int)) = false := decide_eq_false c3
    clear c3
    obtain rfl := Option.some.inj H
    go_wp2
    go_ret
    exact ⟨by first | rfl | (simp [*]; done), by repeat (first | exact Drawn0.refl _ | apply Drawn0.step)⟩


def slices_Contains_int_int.f (k : Nat) (l0 : List Int) (a1 : Int) : Option (Bool) := (slices_Index_int_int.f k l0 a1).bind fun t1027 => (some (decide (t1027 ≥ 0)))
theorem slices_Contains_int_int.mono : ∀ a0 a1 k, LeO (slices_Contains_int_int.f k a0 a1) (slices_Contains_int_int.f (k + 1) a0 a1) := by
 intro a0 a1 k
 unfold slices_Contains_int_int.f
 repeat' first | (with_reducible exact slices_Index_int_int.mono _ _ _) | (with_reducible exact LeO.refl _) | (with_reducible refine LeO.bind ?_ (fun _ => ?_))
set_option maxHeartbeats 8000000 in
set_option maxRecDepth 100000 in
theorem slices_Contains_int_int.calls (k : Nat) (A0 : Option Addr) (c0 : Nat) (l0 : List Int) (a1 : Int) (r : Bool) (w : World) (hr0 : Kd.C (Kd.int .i64) w A0 l0.length l0) (hc0 : l0.length ≤ c0) (h : slices_Contains_int_int.f k l0 a1 = some r) :
  Calls Try.prog 81 #[.slice A0 l0.length c0, .int .i64 a1] w fun e w' => e = .returned (.bool r) ∧ Drawn0 w w' := by
 have HR0 := Aside0.mk hr0
 have HC0 := Aside0.mk hc0
 clear hr0 hc0
 have H : ((slices_Index_int_int.f k l0 a1).bind fun t1027 => (some (decide (t1027 ≥ 0)))) = some r := h
 clear h
 replace H := Option.bind_eq_some_iff.mp H
 obtain ⟨t1027, A30, H⟩ := H
 replace H : (some (decide (t1027 ≥ 0))) = some r := H
 have A3 := Aside0.mk A30
 clear A30
 obtain rfl := Option.some.inj H
 go_enter Try.func81, Try.ntmps81
 go_wp2_with (first | ((with_reducible refine gate_callee (f := 95) rfl ?_); refine goesL_ (some 7) rfl rfl Try.func95 (by kernel_rfl) rfl #[.slice A0 l0.length c0, .int .i64 a1] rfl (by (try simp only [List.map_toArray, List.map_cons, List.map_nil]); rfl) ?_; (with_reducible refine (slices_Index_int_int.calls k _ _ l0 a1 t1027 _ ?side1 ?side2 A3.out).mono ?_); (case side1 => repeat (exact HR0.out)); (case side2 => exact HC0.out); rintro e w' ⟨rfl, ⟨nd, rfl⟩⟩; refine ⟨_, rfl, ?_⟩))
 go_ret
 exact ⟨by first | rfl | (simp [*]; done), by repeat (first | exact Drawn0.refl _ | apply Drawn0.step)⟩


def slices_ContainsFunc_int_int.f (k : Nat) (l0 : List Int) (p_ : Int → Option Bool) : Option Bool := (slices_IndexFunc_int_int.f k l0 p_).bind fun i => some (decide (i ≥ 0))
theorem slices_ContainsFunc_int_int.mono (p_ q_ : Int → Option Bool) (hp_ : ∀ n, LeO (p_ n) (q_ n)) : ∀ a0 k, LeO (slices_ContainsFunc_int_int.f k a0 p_) (slices_ContainsFunc_int_int.f (k + 1) a0 q_) := fun a0 k => LeO.bind (slices_IndexFunc_int_int.mono p_ q_ hp_ a0 k) (fun _ => LeO.refl _)
set_option maxHeartbeats 1000000 in
set_option maxRecDepth 100000 in
theorem slices_ContainsFunc_int_int.calls (k : Nat) (A0 : Option Addr) (c0 : Nat) (l0 : List Int) (p_ : Int → Option Bool) (g_ : Nat) (lb_ : Array Value) (r : Bool) (w : World) (hr0 : Kd.C (Kd.int .i64) w A0 l0.length l0) (hc0 : l0.length ≤ c0) (eg_ : ∀ args w, (callFunc g_ args).run Try.prog w = .ok (.enter g_ args) w) (hp_ : ∀ (n : Int) (b : Bool) (W : World), Below w.heap.size w W → p_ n = some b → Calls Try.prog g_ (#[.int .i64 n] ++ lb_) W fun e W' => e = .returned (.bool b) ∧ Below W.heap.size W W') (h : slices_ContainsFunc_int_int.f k l0 p_ = some r) :
  Calls Try.prog 77 #[.slice A0 l0.length c0, .func (.func g_) #[] lb_] w fun e w' => e = .returned (.bool r) ∧ Below w.heap.size w w' := by
 unfold slices_ContainsFunc_int_int.f at h
 obtain ⟨i, hi, h⟩ := Option.bind_eq_some_iff.mp h
 obtain rfl := Option.some.inj h
 have C := slices_IndexFunc_int_int.calls k A0 c0 l0 p_ g_ lb_ i w hr0 hc0 eg_ hp_ hi
 clear h hi hr0 hc0 eg_ hp_
 go_enter Try.func77, Try.ntmps77
 go_wp2_with (go_at_call 111; refine C.mono ?_; rintro e w' ⟨rfl, hb⟩)
 go_ret
 exact ⟨by simp, hb⟩
def impl_SetOf.wrong (n : Int) : Option Bool := (impl_in.f n 0 59).bind fun b => some (!b)
def impl_SetOf.f (k : Nat) (l0 : List Int) : Option (ByteArray × Bool) := (slices_ContainsFunc_int_int.f k l0 impl_SetOf.wrong).bind fun b => if b = true then some (⟨#[]⟩, false) else impl_made.f k 60 1 (fun n_ => slices_Contains_int_int.f k l0 n_)
theorem impl_SetOf.mono : ∀ a0 k, LeO (impl_SetOf.f k a0) (impl_SetOf.f (k + 1) a0) := fun a0 k => LeO.bind (slices_ContainsFunc_int_int.mono _ _ (fun _ => LeO.refl _) a0 k) (fun _ => LeO.ite (LeO.refl _) (impl_made.mono _ _ (fun _ => slices_Contains_int_int.mono _ _ _) _ _ _))
set_option maxHeartbeats 1000000 in
set_option maxRecDepth 100000 in
theorem impl_SetOf.lit1 (n : Int) (b : Bool) (W : World) (h : impl_SetOf.wrong n = some b) :
  Calls Try.prog 78 #[.int .i64 n] W fun e W' => e = .returned (.bool b) ∧ Below W.heap.size W W' := by
 unfold impl_SetOf.wrong at h
 obtain ⟨x, hx, h⟩ := Option.bind_eq_some_iff.mp h
 obtain rfl := Option.some.inj h
 have C := impl_in.calls n 0 59 x W hx
 clear h hx
 go_enter Try.func78, Try.ntmps78
 go_wp2_with (go_at_call 55; refine C.mono ?_; rintro e w' ⟨rfl, ⟨nd, rfl⟩⟩)
 go_ret
 exact ⟨rfl, Drawn0.below ⟨_, rfl⟩⟩
set_option maxHeartbeats 1000000 in
set_option maxRecDepth 100000 in
theorem impl_SetOf.lit2 (k : Nat) (B : Nat) (A0 : Option Addr) (c0 : Nat) (l0 : List Int) (n : Int) (b : Bool) (W : World) (h1 : W.heap[B]? = some (.cells #[.slice A0 l0.length c0] 39 (0, 0))) (r0 : Kd.C (Kd.int .i64) W A0 l0.length l0) (q0 : l0.length ≤ c0) (h : slices_Contains_int_int.f k l0 n = some b) :
  Calls Try.prog 80 #[.int .i64 n, .pointer (some ⟨B, 0, none⟩)] W fun e W' => e = .returned (.bool b) ∧ Below W.heap.size W W' := by
 have c10 : W.cell? ⟨B, 0, none⟩ = some (.slice A0 l0.length c0) := (blk_cell h1 0).trans rfl
 have C := slices_Contains_int_int.calls k A0 c0 l0 n b W r0 q0 h
 clear h1 r0 q0 h
 go_enter Try.func80, Try.ntmps80
 go_wp2_with (go_at_call 81; refine C.mono ?_; rintro e w' ⟨rfl, ⟨nd, rfl⟩⟩)
 go_ret
 exact ⟨rfl, Drawn0.below ⟨_, rfl⟩⟩
set_option maxHeartbeats 1000000 in
set_option maxRecDepth 100000 in
theorem impl_SetOf.calls (k : Nat) (A0 : Option Addr) (c0 : Nat) (l0 : List Int) (r1 : ByteArray) (r2 : Bool) (w : World) (hr0 : Kd.C (Kd.int .i64) w A0 l0.length l0) (hc0 : l0.length ≤ c0) (h : impl_SetOf.f k l0 = some (r1, r2)) :
  Calls Try.prog 31 #[.slice A0 l0.length c0] w fun e w' => e = .returned (.tuple #[.string r1, .bool r2]) ∧ Below w.heap.size w w' := by
 have hmf : ∀ (fn : Fn) (first cap : Array Value) (w : World), (Instr.makeFunc fn first cap).run Try.prog w = .ok (.func fn first cap) w := fun _ _ _ _ => rfl
 unfold impl_SetOf.f at h
 obtain ⟨b, hb0, h⟩ := Option.bind_eq_some_iff.mp h
 have HF := Aside0.mk hb0; have K0 := Aside0.mk hr0
 have BL := Aside0.mk (blk_new w (.cells #[.slice A0 l0.length c0] 39))
 have HB : Aside0 (Below w.heap.size w (w.alloc (.cells #[.slice A0 l0.length c0] 39))) := ⟨(Below.refl _ w).alloc (Nat.le_refl _) _⟩
 clear hb0 hr0
 cases b with
 | true =>
  simp only [if_true, Option.some.injEq, Prod.mk.injEq] at h
  obtain ⟨rfl, rfl⟩ := h
  go_enter Try.func31, Try.ntmps31
  go_wp2_with (go_at_call 77; refine (slices_ContainsFunc_int_int.calls k A0 c0 l0 impl_SetOf.wrong 78 #[] true _ (Kd.C_alloc K0.out _) hc0 (fun args_ w_ => enters_ Try.func78 (by kernel_rfl) rfl args_ w_) ?hpx HF.out).mono ?_; (case hpx => intro n_ b_ W_ hW_ hb_; exact impl_SetOf.lit1 n_ b_ W_ hb_); rintro e w' ⟨rfl, hb⟩; have HB2 := Aside0.mk (below_step HB.out hb); clear hb)
  go_ret2
  exact ⟨rfl, HB2.out⟩
 | false =>
  simp only [Bool.false_eq_true, if_false] at h
  have H := Aside0.mk h
  clear h
  go_enter Try.func31, Try.ntmps31
  go_wp2_with (first | (go_at_call 77; refine (slices_ContainsFunc_int_int.calls k A0 c0 l0 impl_SetOf.wrong 78 #[] false _ (Kd.C_alloc K0.out _) hc0 (fun args_ w_ => enters_ Try.func78 (by kernel_rfl) rfl args_ w_) ?hpx HF.out).mono ?_; (case hpx => intro n_ b_ W_ hW_ hb_; exact impl_SetOf.lit1 n_ b_ W_ hb_); rintro e w' ⟨rfl, hb⟩; have HB2 := Aside0.mk (below_step HB.out hb); have BL2 := Aside0.mk (blk_below BL.out hb); have K2 := Aside0.mk (Kd.C_below (Kd.C_alloc K0.out _) hb); clear hb) | (go_at_call 79; refine (impl_made.calls k 60 1 _ 80 #[.pointer (some ⟨w.heap.size, 0, none⟩)] r1 r2 _ (fun args_ w_ => enters_ Try.func80 (by kernel_rfl) rfl args_ w_) ?hpx H.out).mono ?_; (case hpx => intro n_ b_ W_ hW_ hb_; exact impl_SetOf.lit2 k w.heap.size A0 c0 l0 n_ b_ W_ (blk_below BL2.out hW_) (Kd.C_below K2.out hW_) hc0 hb_); rintro e w' ⟨rfl, hb⟩; have HB3 := Aside0.mk (below_step HB2.out hb); clear hb))
  go_ret2
  exact ⟨rfl, HB3.out⟩

def impl_gcd.l0 : Nat → Int → Int → Option (Int)
 | 0, _, _ => none
 | k + 1, x0, x1 => if x1 = 0 then (some x0) else (impl_gcd.l0 k x1 (Int.tmod x0 x1))
def impl_gcd.f (k : Nat) (a0 : Int) (a1 : Int) : Option (Int) := impl_gcd.l0 k a0 a1
theorem impl_gcd.mono_l : ∀ k, (∀ y0 y1, LeO (impl_gcd.l0 k y0 y1) (impl_gcd.l0 (k + 1) y0 y1))
 | 0 => fun _ _ r h => by simp [impl_gcd.l0] at h
 | k + 1 => by
  have ih0 := impl_gcd.mono_l k
  ·intro y0 y1
   unfold impl_gcd.l0
   repeat' first | (with_reducible exact ih0 _ _) | (with_reducible exact LeO.refl _) | (with_reducible refine LeO.ite ?_ ?_)
theorem impl_gcd.mono : ∀ a0 a1 k, LeO (impl_gcd.f k a0 a1) (impl_gcd.f (k + 1) a0 a1) := by
 intro a0 a1 k
 have ih0 := impl_gcd.mono_l k
 unfold impl_gcd.f
 repeat' (with_reducible exact ih0 _ _)
set_option maxHeartbeats 8000000 in
set_option maxRecDepth 100000 in
theorem impl_gcd.calls (k : Nat) (a0 : Int) (a1 : Int) (r : Int) (w : World) (h : impl_gcd.f k a0 a1 = some r) :
  Calls Try.prog 114 #[.int .i64 a0, .int .i64 a1] w fun e w' => e = .returned (.int .i64 r) ∧ Drawn0 w w' := by
 have H : (impl_gcd.l0 k a0 a1) = some r := h
 clear h
 have H' := Aside0.mk H
 clear H
 go_enter Try.func114, Try.ntmps114
 go_wp2
 repeat (go_quiet (fail); try go_wp2)
 go_loopg [0, 1] k (fun kq v0 v1 w' => ∃ (x0_1 : Int) (x1_1 : Int), v0 = .int .i64 x0_1 ∧ v1 = .int .i64 x1_1 ∧ Aside0 (impl_gcd.l0 kq x0_1 x1_1 = some r) ∧ Aside0 (kq ≤ k) ∧ Drawn0 w w')
 case atStart => exact ⟨(a0), (a1), (by rfl), (by rfl), H', ⟨Nat.le_refl _⟩, by repeat (exact Drawn0.refl _)⟩
 case round =>
  clear H'
  obtain ⟨x0_1, x1_1, rfl, rfl, HA, HK1, ⟨m1, rfl⟩⟩ := hrel
  cases gk with
  | zero => exact absurd HA.out (by simp [impl_gcd.l0])
  | succ k1 =>
   have H := HA.out
   clear HA
   simp only [impl_gcd.l0] at H
   by_cases c3 : x1_1 = 0
   ·rw [if_pos c3] at H
    have c3b0 : (x1_1 == 0) = true := beq_iff_eq.mpr c3
    have c3b1 : (x1_1 != 0) = false := bne_eq_false_iff_eq.mpr c3
    clear c3
    obtain rfl := Option.some.inj H
    go_wp2
    repeat (go_quiet (fail); try go_wp2)
    go_ret
    exact ⟨by first | rfl | (simp [*]; done), by repeat (first | exact Drawn0.refl _ | apply Drawn0.step)⟩
   ·rw [if_neg c3] at H
    have c3b0 : (x1_1 == 0) = false := beq_eq_false_iff_ne.mpr c3
    have c3b1 : (x1_1 != 0) = true := bne_iff_ne.mpr c3
    have H' := Aside0.mk H
    clear H
    go_wp2
    repeat (go_quiet (fail); try go_wp2)
    go_roundg k1
    case measure => have := HK1.out; omega
    case rel => exact ⟨(x1_1), (Int.tmod x0_1 x1_1), (by rfl), (by rfl), H', ⟨by have := HK1.out; omega⟩, by repeat (first | exact Drawn0.refl _ | apply Drawn0.step)⟩


def impl_lcm.f (k : Nat) (a0 : Int) (a1 : Int) : Option (Int) := (impl_gcd.f k a0 a1).bind fun t428 => (if t428 = 0 then (none) else (some (wrap64 ((wrap64 (Int.tdiv a0 t428)) * a1))))
theorem impl_lcm.mono : ∀ a0 a1 k, LeO (impl_lcm.f k a0 a1) (impl_lcm.f (k + 1) a0 a1) := by
 intro a0 a1 k
 unfold impl_lcm.f
 repeat' first | (with_reducible exact impl_gcd.mono _ _ _) | (with_reducible exact LeO.refl _) | (with_reducible refine LeO.bind ?_ (fun _ => ?_))
set_option maxHeartbeats 8000000 in
set_option maxRecDepth 100000 in
theorem impl_lcm.calls (k : Nat) (a0 : Int) (a1 : Int) (r : Int) (w : World) (h : impl_lcm.f k a0 a1 = some r) :
  Calls Try.prog 86 #[.int .i64 a0, .int .i64 a1] w fun e w' => e = .returned (.int .i64 r) ∧ Drawn0 w w' := by
 have H : ((impl_gcd.f k a0 a1).bind fun t428 => (if t428 = 0 then (none) else (some (wrap64 ((wrap64 (Int.tdiv a0 t428)) * a1))))) = some r := h
 clear h
 replace H := Option.bind_eq_some_iff.mp H
 obtain ⟨t428, A30, H⟩ := H
 replace H : (if t428 = 0 then (none) else (some (wrap64 ((wrap64 (Int.tdiv a0 t428)) * a1)))) = some r := H
 have A3 := Aside0.mk A30
 clear A30
 by_cases c4 : t428 = 0
 ·rw [if_pos c4] at H
  exact absurd H (by simp)
 ·rw [if_neg c4] at H
  have c4b0 : (t428 == 0) = false := beq_eq_false_iff_ne.mpr c4
  have c4b1 : (t428 != 0) = true := bne_iff_ne.mpr c4
  obtain rfl := Option.some.inj H
  go_enter Try.func86, Try.ntmps86
  go_wp2_with (first | ((with_reducible refine gate_callee (f := 114) rfl ?_); refine goesL_ (some 8) rfl rfl Try.func114 (by kernel_rfl) rfl #[.int .i64 a0, .int .i64 a1] rfl (by (try simp only [List.map_toArray, List.map_cons, List.map_nil]); rfl) ?_; (with_reducible refine (impl_gcd.calls k a0 a1 t428 _ A3.out).mono ?_); rintro e w' ⟨rfl, ⟨nd, rfl⟩⟩; refine ⟨_, rfl, ?_⟩))
  go_ret
  exact ⟨by first | rfl | (simp [*]; done), by repeat (first | exact Drawn0.refl _ | apply Drawn0.step)⟩


def impl_both.f (k : Nat) (l0_0 : List Bool) (l0_1 : List Bool) (l1_0 : List Bool) (l1_1 : List Bool) : Option (Int × Int) := (impl_lcm.f k (l0_1.length : Int) (l1_1.length : Int)).bind fun t702 => (some (mx (l0_0.length : Int) (l1_0.length : Int), t702))
theorem impl_both.mono : ∀ a0 a1 a2 a3 k, LeO (impl_both.f k a0 a1 a2 a3) (impl_both.f (k + 1) a0 a1 a2 a3) := by
 intro a0 a1 a2 a3 k
 unfold impl_both.f
 repeat' first
   |(with_reducible exact impl_lcm.mono _ _ _)
   |(with_reducible exact LeO.refl _)
   |(with_reducible exact LeO.none _)
   |(with_reducible refine LeO.ite ?_ ?_)
   |(with_reducible refine LeO.bind ?_ (fun _ => ?_))
   |exact impl_lcm.mono _ _ _
   |exact LeO.none _
   |refine LeO.ite ?_ ?_
   |refine LeO.bind ?_ (fun _ => ?_)
set_option maxHeartbeats 8000000 in
set_option maxRecDepth 100000 in
theorem impl_both.calls (k : Nat) (A0_0 : Option Addr) (c0_0 : Nat) (l0_0 : List Bool) (A0_1 : Option Addr) (c0_1 : Nat) (l0_1 : List Bool) (A1_0 : Option Addr) (c1_0 : Nat) (l1_0 : List Bool) (A1_1 : Option Addr) (c1_1 : Nat) (l1_1 : List Bool) (r1 : Int) (r2 : Int) (w : World) (hr0_0 : Kd.C Kd.bool w A0_0 l0_0.length l0_0) (hc0_0 : l0_0.length ≤ c0_0) (hr0_1 : Kd.C Kd.bool w A0_1 l0_1.length l0_1) (hc0_1 : l0_1.length ≤ c0_1) (hr1_0 : Kd.C Kd.bool w A1_0 l1_0.length l1_0) (hc1_0 : l1_0.length ≤ c1_0) (hr1_1 : Kd.C Kd.bool w A1_1 l1_1.length l1_1) (hc1_1 : l1_1.length ≤ c1_1) (h : impl_both.f k l0_0 l0_1 l1_0 l1_1 = some (r1, r2)) :
  Calls Try.prog 68 #[.agg #[.slice A0_0 l0_0.length c0_0, .slice A0_1 l0_1.length c0_1], .agg #[.slice A1_0 l1_0.length c1_0, .slice A1_1 l1_1.length c1_1]] w fun e w' => e = .returned (.tuple #[.int .i64 r1, .int .i64 r2]) ∧ Below w.heap.size w w' := by
 have hu60 := Try.underlying60
 have HR0_0 := Aside0.mk hr0_0
 have HC0_0 := Aside0.mk hc0_0
 clear hr0_0 hc0_0
 have HR0_1 := Aside0.mk hr0_1
 have HC0_1 := Aside0.mk hc0_1
 clear hr0_1 hc0_1
 have HR1_0 := Aside0.mk hr1_0
 have HC1_0 := Aside0.mk hc1_0
 clear hr1_0 hc1_0
 have HR1_1 := Aside0.mk hr1_1
 have HC1_1 := Aside0.mk hc1_1
 clear hr1_1 hc1_1
 have HB := Aside0.mk (Below.refl w.heap.size w)
 have H : ((impl_lcm.f k (l0_1.length : Int) (l1_1.length : Int)).bind fun t702 => (some (mx (l0_0.length : Int) (l1_0.length : Int), t702))) = some (r1, r2) := h
 clear h
 obtain ⟨ji3, hji3⟩ : ∃ j_ : Int, (mx (l0_0.length : Int) (l1_0.length : Int)) = j_ := ⟨_, rfl⟩
 replace H : ((impl_lcm.f k (l0_1.length : Int) (l1_1.length : Int)).bind fun t702 => (some (ji3, t702))) = some (r1, r2) := by first | (rw [hji3] at H; exact H) | (simp only [hji3] at H ⊢; exact H)
 (try (have hji3l : 0 ≤ ji3 := by (rw [← hji3]; unfold mx; (repeat' split) <;> omega)))
 (try (have hji3m : 0 ≤ ji3 := by omega))
 have hji3_ : (if (l0_0.length : Int) < (l1_0.length : Int) then (l1_0.length : Int) else (l0_0.length : Int)) = ji3 := hji3
 have hji3n : (if l0_0.length < l1_0.length then (l1_0.length : Int) else (l0_0.length : Int)) = ji3 := by rw [← hji3_]; split <;> split <;> omega
 replace H := Option.bind_eq_some_iff.mp H
 obtain ⟨t702, A40, H⟩ := H
 replace H : (some (ji3, t702)) = some (r1, r2) := H
 have A4 := Aside0.mk A40
 clear A40
 simp only [Option.some.injEq, Prod.mk.injEq] at H
 obtain ⟨rfl, rfl⟩ := H
 go_enter Try.func68, Try.ntmps68
 go_wp2_with (first | ((with_reducible refine gate_dst (N := 2) rfl ?_); refine box_event ?hg (N := 2) ?hd (cs := #[.slice A0_0 l0_0.length c0_0, .slice A0_1 l0_1.length c0_1]) (t := 60) ?hr ?_; (case hd => rfl); (case hg => rfl); (case hr => first | (go_simp; done) | (go_simp; rfl)); intro gb700 hg w5 hbox hb; have BK700 := Aside0.mk hbox; have GW700 := Aside0.mk ((by rw [hg]; exact (below_size (by repeat (first | (with_reducible first | exact HB.out | apply below_alloc | apply pw_below_drewN | apply below_drew1) | exact HB.out))) : w.heap.size ≤ gb700)); have GE700 := Aside0.mk ((by rw [hg]; exact (below_size (by repeat (first | (with_reducible first | exact HB.out | apply below_alloc | apply pw_below_drewN | apply below_drew1) | exact HB.out))) : w.heap.size ≤ gb700)); replace HB := Aside0.mk (below_step (by repeat (first | (with_reducible first | exact HB.out | apply below_alloc | apply pw_below_drewN | apply below_drew1) | exact HB.out)) hb); clear hb hbox hg) | ((with_reducible refine gate_dst (N := 3) rfl ?_); refine box_event ?hg (N := 3) ?hd (cs := #[.slice A1_0 l1_0.length c1_0, .slice A1_1 l1_1.length c1_1]) (t := 60) ?hr ?_; (case hd => rfl); (case hg => rfl); (case hr => first | (go_simp; done) | (go_simp; rfl)); intro gb701 hg w6 hbox hb; have BK701 := Aside0.mk hbox; have GW701 := Aside0.mk ((by rw [hg]; exact (below_size (by repeat (first | (with_reducible first | exact HB.out | apply below_alloc | apply pw_below_drewN | apply below_drew1 | refine below_set ?_ GE700.out) | exact HB.out))) : w.heap.size ≤ gb701)); have GE701 := Aside0.mk ((by rw [hg]; exact (below_size (by repeat (first | (with_reducible first | exact HB.out | apply below_alloc | apply pw_below_drewN | apply below_drew1 | refine below_set ?_ GE700.out) | exact HB.out))) : w.heap.size ≤ gb701)); replace HB := Aside0.mk (below_step (by repeat (first | (with_reducible first | exact HB.out | apply below_alloc | apply pw_below_drewN | apply below_drew1 | refine below_set ?_ GE700.out) | exact HB.out)) hb); have NB700_701 := Aside0.mk ((by rw [hg]; exact Nat.ne_of_lt (blk_lt (g := gb700) (o := .cells #[.slice A0_0 l0_0.length c0_0, .slice A0_1 l0_1.length c0_1] 60 (0, 0)) (by (with_reducible repeat (first | refine blk_drewN ?_ _ | refine blk_drew ?_ | refine blk_alloc ?_ _)); exact BK700.out)) : gb700 ≠ gb701)); have NB701_700 := Aside0.mk ((by rw [hg]; exact Nat.ne_of_gt (blk_lt (g := gb700) (o := .cells #[.slice A0_0 l0_0.length c0_0, .slice A0_1 l0_1.length c0_1] 60 (0, 0)) (by (with_reducible repeat (first | refine blk_drewN ?_ _ | refine blk_drew ?_ | refine blk_alloc ?_ _)); exact BK700.out)) : gb701 ≠ gb700)); replace BK700 := Aside0.mk (blk_below (g := gb700) (o := .cells #[.slice A0_0 l0_0.length c0_0, .slice A0_1 l0_1.length c0_1] 60 (0, 0)) (by (with_reducible repeat (first | refine blk_drewN ?_ _ | refine blk_drew ?_ | refine blk_alloc ?_ _)); exact BK700.out) hb); clear hb hbox hg; have hnb7 := NB700_701.out; have hnc7 := NB701_700.out; have hcz8_0 : w6.cell? ⟨gb700, 0, none⟩ = some (.slice A0_0 l0_0.length c0_0) := (blk_cell BK700.out 0).trans rfl; have hcz8_1 : w6.cell? ⟨gb700, 1, none⟩ = some (.slice A0_1 l0_1.length c0_1) := (blk_cell BK700.out 1).trans rfl; have hfz8_0 := blk_frozen BK700.out 0; have hfz8_1 := blk_frozen BK700.out 1; have hcz9_0 : w6.cell? ⟨gb701, 0, none⟩ = some (.slice A1_0 l1_0.length c1_0) := (blk_cell BK701.out 0).trans rfl; have hcz9_1 : w6.cell? ⟨gb701, 1, none⟩ = some (.slice A1_1 l1_1.length c1_1) := (blk_cell BK701.out 1).trans rfl; have hfz9_0 := blk_frozen BK701.out 0; have hfz9_1 := blk_frozen BK701.out 1) | (go_at_call 86; (with_reducible refine (impl_lcm.calls k (l0_1.length : Int) (l1_1.length : Int) t702 _ A4.out).mono ?_); rintro e w' ⟨rfl, ⟨nd, rfl⟩⟩; (try first | exact ⟨rfl, _, World.drewN_drewN _ _ _⟩ | exact ⟨rfl, _, Eq.trans (World.drewN_drewN _ _ _) (congrArg (World.drewN _) (Nat.add_assoc _ _ _))⟩)))
 repeat (go_quiet (first | ((with_reducible refine gate_dst (N := 2) rfl ?_); refine box_event ?hg (N := 2) ?hd (cs := #[.slice A0_0 l0_0.length c0_0, .slice A0_1 l0_1.length c0_1]) (t := 60) ?hr ?_; (case hd => rfl); (case hg => rfl); (case hr => first | (go_simp; done) | (go_simp; rfl)); intro gb700 hg w5 hbox hb; have BK700 := Aside0.mk hbox; have GW700 := Aside0.mk ((by rw [hg]; exact (below_size (by repeat (first | (with_reducible first | exact HB.out | apply below_alloc | apply pw_below_drewN | apply below_drew1) | exact HB.out))) : w.heap.size ≤ gb700)); have GE700 := Aside0.mk ((by rw [hg]; exact (below_size (by repeat (first | (with_reducible first | exact HB.out | apply below_alloc | apply pw_below_drewN | apply below_drew1) | exact HB.out))) : w.heap.size ≤ gb700)); replace HB := Aside0.mk (below_step (by repeat (first | (with_reducible first | exact HB.out | apply below_alloc | apply pw_below_drewN | apply below_drew1) | exact HB.out)) hb); clear hb hbox hg) | ((with_reducible refine gate_dst (N := 3) rfl ?_); refine box_event ?hg (N := 3) ?hd (cs := #[.slice A1_0 l1_0.length c1_0, .slice A1_1 l1_1.length c1_1]) (t := 60) ?hr ?_; (case hd => rfl); (case hg => rfl); (case hr => first | (go_simp; done) | (go_simp; rfl)); intro gb701 hg w6 hbox hb; have BK701 := Aside0.mk hbox; have GW701 := Aside0.mk ((by rw [hg]; exact (below_size (by repeat (first | (with_reducible first | exact HB.out | apply below_alloc | apply pw_below_drewN | apply below_drew1 | refine below_set ?_ GE700.out) | exact HB.out))) : w.heap.size ≤ gb701)); have GE701 := Aside0.mk ((by rw [hg]; exact (below_size (by repeat (first | (with_reducible first | exact HB.out | apply below_alloc | apply pw_below_drewN | apply below_drew1 | refine below_set ?_ GE700.out) | exact HB.out))) : w.heap.size ≤ gb701)); replace HB := Aside0.mk (below_step (by repeat (first | (with_reducible first | exact HB.out | apply below_alloc | apply pw_below_drewN | apply below_drew1 | refine below_set ?_ GE700.out) | exact HB.out)) hb); have NB700_701 := Aside0.mk ((by rw [hg]; exact Nat.ne_of_lt (blk_lt (g := gb700) (o := .cells #[.slice A0_0 l0_0.length c0_0, .slice A0_1 l0_1.length c0_1] 60 (0, 0)) (by (with_reducible repeat (first | refine blk_drewN ?_ _ | refine blk_drew ?_ | refine blk_alloc ?_ _)); exact BK700.out)) : gb700 ≠ gb701)); have NB701_700 := Aside0.mk ((by rw [hg]; exact Nat.ne_of_gt (blk_lt (g := gb700) (o := .cells #[.slice A0_0 l0_0.length c0_0, .slice A0_1 l0_1.length c0_1] 60 (0, 0)) (by (with_reducible repeat (first | refine blk_drewN ?_ _ | refine blk_drew ?_ | refine blk_alloc ?_ _)); exact BK700.out)) : gb701 ≠ gb700)); replace BK700 := Aside0.mk (blk_below (g := gb700) (o := .cells #[.slice A0_0 l0_0.length c0_0, .slice A0_1 l0_1.length c0_1] 60 (0, 0)) (by (with_reducible repeat (first | refine blk_drewN ?_ _ | refine blk_drew ?_ | refine blk_alloc ?_ _)); exact BK700.out) hb); clear hb hbox hg; have hnb7 := NB700_701.out; have hnc7 := NB701_700.out; have hcz8_0 : w6.cell? ⟨gb700, 0, none⟩ = some (.slice A0_0 l0_0.length c0_0) := (blk_cell BK700.out 0).trans rfl; have hcz8_1 : w6.cell? ⟨gb700, 1, none⟩ = some (.slice A0_1 l0_1.length c0_1) := (blk_cell BK700.out 1).trans rfl; have hfz8_0 := blk_frozen BK700.out 0; have hfz8_1 := blk_frozen BK700.out 1; have hcz9_0 : w6.cell? ⟨gb701, 0, none⟩ = some (.slice A1_0 l1_0.length c1_0) := (blk_cell BK701.out 0).trans rfl; have hcz9_1 : w6.cell? ⟨gb701, 1, none⟩ = some (.slice A1_1 l1_1.length c1_1) := (blk_cell BK701.out 1).trans rfl; have hfz9_0 := blk_frozen BK701.out 0; have hfz9_1 := blk_frozen BK701.out 1) | (go_at_call 86; (with_reducible refine (impl_lcm.calls k (l0_1.length : Int) (l1_1.length : Int) t702 _ A4.out).mono ?_); rintro e w' ⟨rfl, ⟨nd, rfl⟩⟩; (try first | exact ⟨rfl, _, World.drewN_drewN _ _ _⟩ | exact ⟨rfl, _, Eq.trans (World.drewN_drewN _ _ _) (congrArg (World.drewN _) (Nat.add_assoc _ _ _))⟩))); try go_wp2_with (first | ((with_reducible refine gate_dst (N := 2) rfl ?_); refine box_event ?hg (N := 2) ?hd (cs := #[.slice A0_0 l0_0.length c0_0, .slice A0_1 l0_1.length c0_1]) (t := 60) ?hr ?_; (case hd => rfl); (case hg => rfl); (case hr => first | (go_simp; done) | (go_simp; rfl)); intro gb700 hg w5 hbox hb; have BK700 := Aside0.mk hbox; have GW700 := Aside0.mk ((by rw [hg]; exact (below_size (by repeat (first | (with_reducible first | exact HB.out | apply below_alloc | apply pw_below_drewN | apply below_drew1) | exact HB.out))) : w.heap.size ≤ gb700)); have GE700 := Aside0.mk ((by rw [hg]; exact (below_size (by repeat (first | (with_reducible first | exact HB.out | apply below_alloc | apply pw_below_drewN | apply below_drew1) | exact HB.out))) : w.heap.size ≤ gb700)); replace HB := Aside0.mk (below_step (by repeat (first | (with_reducible first | exact HB.out | apply below_alloc | apply pw_below_drewN | apply below_drew1) | exact HB.out)) hb); clear hb hbox hg) | ((with_reducible refine gate_dst (N := 3) rfl ?_); refine box_event ?hg (N := 3) ?hd (cs := #[.slice A1_0 l1_0.length c1_0, .slice A1_1 l1_1.length c1_1]) (t := 60) ?hr ?_; (case hd => rfl); (case hg => rfl); (case hr => first | (go_simp; done) | (go_simp; rfl)); intro gb701 hg w6 hbox hb; have BK701 := Aside0.mk hbox; have GW701 := Aside0.mk ((by rw [hg]; exact (below_size (by repeat (first | (with_reducible first | exact HB.out | apply below_alloc | apply pw_below_drewN | apply below_drew1 | refine below_set ?_ GE700.out) | exact HB.out))) : w.heap.size ≤ gb701)); have GE701 := Aside0.mk ((by rw [hg]; exact (below_size (by repeat (first | (with_reducible first | exact HB.out | apply below_alloc | apply pw_below_drewN | apply below_drew1 | refine below_set ?_ GE700.out) | exact HB.out))) : w.heap.size ≤ gb701)); replace HB := Aside0.mk (below_step (by repeat (first | (with_reducible first | exact HB.out | apply below_alloc | apply pw_below_drewN | apply below_drew1 | refine below_set ?_ GE700.out) | exact HB.out)) hb); have NB700_701 := Aside0.mk ((by rw [hg]; exact Nat.ne_of_lt (blk_lt (g := gb700) (o := .cells #[.slice A0_0 l0_0.length c0_0, .slice A0_1 l0_1.length c0_1] 60 (0, 0)) (by (with_reducible repeat (first | refine blk_drewN ?_ _ | refine blk_drew ?_ | refine blk_alloc ?_ _)); exact BK700.out)) : gb700 ≠ gb701)); have NB701_700 := Aside0.mk ((by rw [hg]; exact Nat.ne_of_gt (blk_lt (g := gb700) (o := .cells #[.slice A0_0 l0_0.length c0_0, .slice A0_1 l0_1.length c0_1] 60 (0, 0)) (by (with_reducible repeat (first | refine blk_drewN ?_ _ | refine blk_drew ?_ | refine blk_alloc ?_ _)); exact BK700.out)) : gb701 ≠ gb700)); replace BK700 := Aside0.mk (blk_below (g := gb700) (o := .cells #[.slice A0_0 l0_0.length c0_0, .slice A0_1 l0_1.length c0_1] 60 (0, 0)) (by (with_reducible repeat (first | refine blk_drewN ?_ _ | refine blk_drew ?_ | refine blk_alloc ?_ _)); exact BK700.out) hb); clear hb hbox hg; have hnb7 := NB700_701.out; have hnc7 := NB701_700.out; have hcz8_0 : w6.cell? ⟨gb700, 0, none⟩ = some (.slice A0_0 l0_0.length c0_0) := (blk_cell BK700.out 0).trans rfl; have hcz8_1 : w6.cell? ⟨gb700, 1, none⟩ = some (.slice A0_1 l0_1.length c0_1) := (blk_cell BK700.out 1).trans rfl; have hfz8_0 := blk_frozen BK700.out 0; have hfz8_1 := blk_frozen BK700.out 1; have hcz9_0 : w6.cell? ⟨gb701, 0, none⟩ = some (.slice A1_0 l1_0.length c1_0) := (blk_cell BK701.out 0).trans rfl; have hcz9_1 : w6.cell? ⟨gb701, 1, none⟩ = some (.slice A1_1 l1_1.length c1_1) := (blk_cell BK701.out 1).trans rfl; have hfz9_0 := blk_frozen BK701.out 0; have hfz9_1 := blk_frozen BK701.out 1) | (go_at_call 86; (with_reducible refine (impl_lcm.calls k (l0_1.length : Int) (l1_1.length : Int) t702 _ A4.out).mono ?_); rintro e w' ⟨rfl, ⟨nd, rfl⟩⟩; (try first | exact ⟨rfl, _, World.drewN_drewN _ _ _⟩ | exact ⟨rfl, _, Eq.trans (World.drewN_drewN _ _ _) (congrArg (World.drewN _) (Nat.add_assoc _ _ _))⟩))))
 go_ret2
 exact ⟨by first | rfl | (simp [errW_none, errW_some] <;> rfl) | (simp [errW_none, errW_some]; exact ⟨rfl, rfl⟩) | (simp [errW_none, errW_some]; exact ⟨rfl, rfl, rfl⟩) | (simp only [← hji3]; first | rfl | (simp [errW_none, errW_some] <;> rfl) | (simp [errW_none, errW_some]; exact ⟨rfl, rfl⟩) | (simp [errW_none, errW_some]; exact ⟨rfl, rfl, rfl⟩)) | (simp [*, errW_none, errW_some] <;> rfl), by repeat (first | (with_reducible first | exact HB.out | apply below_alloc | apply pw_below_drewN | apply below_drew1 | refine below_set ?_ GE700.out | refine below_set ?_ GE701.out) | exact HB.out)⟩


def impl_pair.p (z : Bool → Bool → Bool) (l0 l1 l2 l3 : List Bool) (n : Int) : Option Bool := (impl_set_has.f l0 l1 n).bind fun a => (impl_set_has.f l2 l3 n).bind fun b => some (z a b)
def impl_pair.f (k : Nat) (a0 a1 : ByteArray) (z : Bool → Bool → Bool) : Option (ByteArray × Bool) :=
 (impl_setOf.f a0).bind fun x => (impl_setOf.f a1).bind fun y => if x.2.2 = true then (if y.2.2 = true then (impl_both.f k x.1 x.2.1 y.1 y.2.1).bind fun q => impl_made.f k q.1 q.2 (impl_pair.p z x.1 x.2.1 y.1 y.2.1) else some (⟨#[]⟩, false)) else some (⟨#[]⟩, false)
theorem impl_pair.mono : ∀ a0 a1 z k, LeO (impl_pair.f k a0 a1 z) (impl_pair.f (k + 1) a0 a1 z) := by
 intro a0 a1 z k
 unfold impl_pair.f
 repeat' first | (with_reducible exact impl_both.mono _ _ _ _ _) | (with_reducible exact impl_made.mono _ _ (fun _ => LeO.refl _) _ _ _) | (with_reducible exact LeO.refl _) | (with_reducible refine LeO.ite ?_ ?_) | (with_reducible refine LeO.bind ?_ (fun _ => ?_))
/-- What the function that is handed in answers. -/
def impl_pair.Two (w : World) (g0 : Nat) (z : Bool → Bool → Bool) : Prop := ∀ (a b : Bool) (W : World), Below w.heap.size w W → Calls Try.prog g0 #[.bool a, .bool b] W fun e W' => e = .returned (.bool (z a b)) ∧ Below W.heap.size W W'
def impl_pair.T1 : Bool × List (List Nat × List Nat) := (true, [([], []), ([], []), ([], []), ([1, 2], [1, 2]), ([], []), ([], []), ([4, 5, 3], [4, 5]), ([0, 3, 6, 6], [0, 3, 6]), ([7, 7, 0, 1, 2, 3, 4, 5, 6, 7], [7])])
def impl_pair.B1 : List Nat := [0, 0, 0, 6, 0, 0, 62, 127, 255]
theorem impl_pair.tab1 : rtab .any (opsOf Try.f113 1) = impl_pair.T1 := by kernel_rfl
theorem impl_pair.bits1 : waitsOk impl_pair.T1.2 impl_pair.B1 = true := by kernel_rfl
theorem impl_pair.goesV_ {P : Program} {ops : Array Oper} {Q : Exit → Act → World → Prop} {oi : Oper} {N : Option Tmp} {a : Act} {w : World} {K : Act → World → Prop} {c : Operand} {g : FuncId} {lb : Array Value} (eg : ∀ args w, (callFunc g args).run P w = .ok (.enter g args) w) {ars : Array Operand} {ts : Array TypeId} (args : Array Value)
  (hw : Region.wanted oi (yielded ops a.tmps) = true) (hN : oi.dst = N) (hop : oi.op = .call { callee := .value c, args := ars, argTypes := ts }) (hc : a.eval c = .func (.func g) #[] lb) (hargs : ars.map a.eval = args)
  (h : Calls P g (args ++ lb) w fun e w' => ∃ v, e = .returned v ∧ K (a.put N v) w') : if Region.wanted oi (yielded ops a.tmps) = true then Oper.wp P oi a w K Q else K (a.put N undef) w := by
 refine call_ g (args ++ lb) hw hN ?_ h
 have he := eg (args ++ lb) w
 unfold execOp
 simp [hop, hc, resolve, Deferred.ofValue, invoke, hargs, he]
set_option maxHeartbeats 2000000 in
set_option maxRecDepth 100000 in
theorem impl_pair.lit (g0 : Nat) (z : Bool → Bool → Bool) (w : World) (eg0 : ∀ args w, (callFunc g0 args).run Try.prog w = .ok (.enter g0 args) w) (hz : impl_pair.Two w g0 z)
  (B1 B2 B3 : Nat) (A0 : Option Addr) (c0 : Nat) (l0 : List Bool) (A1 : Option Addr) (c1 : Nat) (l1 : List Bool) (A2 : Option Addr) (c2 : Nat) (l2 : List Bool) (A3 : Option Addr) (c3 : Nat) (l3 : List Bool) (n : Int) (b : Bool) (W : World) (hw : Below w.heap.size w W)
  (h1 : W.heap[B1]? = some (.cells #[.func (.func g0) #[] #[]] 90 (0, 0))) (h2 : W.heap[B2]? = some (.cells #[.slice A0 l0.length c0, .slice A1 l1.length c1] 60 (0, 0))) (h3 : W.heap[B3]? = some (.cells #[.slice A2 l2.length c2, .slice A3 l3.length c3] 60 (0, 0)))
  (r0 : Kd.C Kd.bool W A0 l0.length l0) (q0 : l0.length ≤ c0) (r1 : Kd.C Kd.bool W A1 l1.length l1) (q1 : l1.length ≤ c1) (r2 : Kd.C Kd.bool W A2 l2.length l2) (q2 : l2.length ≤ c2) (r3 : Kd.C Kd.bool W A3 l3.length l3) (q3 : l3.length ≤ c3) (h : impl_pair.p z l0 l1 l2 l3 n = some b) :
  Calls Try.prog 113 #[.int .i64 n, .pointer (some ⟨B1, 0, none⟩), .pointer (some ⟨B2, 0, none⟩), .pointer (some ⟨B3, 0, none⟩)] W fun e W' => e = .returned (.bool b) ∧ Below W.heap.size W W' := by
 unfold impl_pair.p at h
 obtain ⟨x, hx, h⟩ := Option.bind_eq_some_iff.mp h
 obtain ⟨y, hy, h⟩ := Option.bind_eq_some_iff.mp h
 obtain rfl := Option.some.inj h
 have BF := Aside0.mk h1; have BA := Aside0.mk h2; have BB := Aside0.mk h3; have K0 := Aside0.mk r0; have K1 := Aside0.mk r1; have K2 := Aside0.mk r2; have K3 := Aside0.mk r3; have HX := Aside0.mk hx; have HY := Aside0.mk hy; have HZ := Aside0.mk hz; have EG := Aside0.mk eg0
 have HW := Aside0.mk hw; have HB := Aside0.mk (Below.refl W.heap.size W)
 clear h1 h2 h3 r0 r1 r2 r3 hx hy hz eg0 hw h
 go_enter Try.func113, Try.ntmps113
 go_wp2
 have d0_ := Aside0.mk (blk_drew BF.out); have d1_ := Aside0.mk (blk_drew BA.out); have d2_ := Aside0.mk (blk_drew BB.out); have d3_ := Aside0.mk (Kd.C_drew K0.out); have d4_ := Aside0.mk (Kd.C_drew K1.out); have d5_ := Aside0.mk (Kd.C_drew K2.out); have d6_ := Aside0.mk (Kd.C_drew K3.out); have d7_ := Aside0.mk (below_drew1 HB.out); have d8_ := Aside0.mk (below_drew1 HW.out)
 clear BF BA BB K0 K1 K2 K3 HB HW
 have BF := d0_; have BA := d1_; have BB := d2_; have K0 := d3_; have K1 := d4_; have K2 := d5_; have K3 := d6_; have HB := d7_; have HW := d8_
 clear d0_ d1_ d2_ d3_ d4_ d5_ d6_ d7_ d8_
 refine start_ (n := 9) (S := fun w' => w'.cell? ⟨B1, 0, none⟩ = some (.func (.func g0) #[] #[]) ∧ w'.cell? ⟨B2, 0, none⟩ = some (.slice A0 l0.length c0) ∧ w'.cell? ⟨B2, 1, none⟩ = some (.slice A1 l1.length c1) ∧ w'.cell? ⟨B3, 0, none⟩ = some (.slice A2 l2.length c2) ∧ w'.cell? ⟨B3, 1, none⟩ = some (.slice A3 l3.length c3)) (ds := []) #[false, false, false, false, false, false, false, false, false] (by kernel_rfl) rfl rfl ⟨(blk_cell BF.out 0).trans rfl, (blk_cell BA.out 0).trans rfl, (blk_cell BA.out 1).trans rfl, (blk_cell BB.out 0).trans rfl, (blk_cell BB.out 1).trans rfl⟩ (fun hHeld => ?_); refine with_tabW impl_pair.tab1 impl_pair.bits1 (fun HT_ HW_ => ?_)
 generalize W.drew = W1 at BF BA BB K0 K1 K2 K3 HB HW hHeld ⊢
 refine pure_ (i := 2) (N := some 8) (v := ?_) (a' := ?_) #[false, false, true, false, false, false, false, false, false] rfl rfl (any_of HT_.out (by kernel_rfl)) (fun _ _ _ h => h) (Or.inl ⟨by rfl, ?_⟩) ?_ ?_
 rotate_left
 ·intro w'
  go_simp
  with_reducible rfl
 rotate_left
 ·simp only [Act.put, List.setIfInBounds_toArray, List.set_cons_zero, List.set_cons_succ, i64_w, i32_w]
  rfl
 refine pure_ (i := 5) (N := some 11) (v := ?_) (a' := ?_) #[false, false, true, false, false, true, false, false, false] rfl rfl (any_of HT_.out (by kernel_rfl)) (fun _ _ _ h => h) (Or.inl ⟨by rfl, ?_⟩) ?_ ?_
 rotate_left
 ·intro w'
  go_simp
  with_reducible rfl
 rotate_left
 ·simp only [Act.put, List.setIfInBounds_toArray, List.set_cons_zero, List.set_cons_succ, i64_w, i32_w]
  rfl
 refine take_ (i := 0) (N := some 6) (v := ?_) (a' := ?_) #[true, false, true, false, false, true, false, false, false] rfl rfl (take_ofW HT_.out HW_.out (by kernel_rfl)) (fun _ _ _ h => h) (Or.inl ⟨by rfl, ?_⟩) hHeld ?_ ?_
 rotate_left
 ·rintro w' ⟨s0, s1, s2, s3, s4⟩
  go_simp
  with_reducible rfl
 rotate_left
 ·simp only [Act.put, List.setIfInBounds_toArray, List.set_cons_zero, List.set_cons_succ, i64_w, i32_w]
  rfl
 refine take_ (i := 1) (N := some 7) (v := ?_) (a' := ?_) #[true, true, true, false, false, true, false, false, false] rfl rfl (take_ofW HT_.out HW_.out (by kernel_rfl)) (fun _ _ _ h => h) (Or.inl ⟨by rfl, ?_⟩) hHeld ?_ ?_
 rotate_left
 ·rintro w' ⟨s0, s1, s2, s3, s4⟩
  go_simp
  with_reducible rfl
 rotate_left
 ·simp only [Act.put, List.setIfInBounds_toArray, List.set_cons_zero, List.set_cons_succ, i64_w, i32_w]
  rfl
 refine take_ (i := 4) (N := some 10) (v := ?_) (a' := ?_) #[true, true, true, false, true, true, false, false, false] rfl rfl (take_ofW HT_.out HW_.out (by kernel_rfl)) (fun _ _ _ h => h) (Or.inl ⟨by rfl, ?_⟩) hHeld ?_ ?_
 rotate_left
 ·rintro w' ⟨s0, s1, s2, s3, s4⟩
  go_simp
  with_reducible rfl
 rotate_left
 ·simp only [Act.put, List.setIfInBounds_toArray, List.set_cons_zero, List.set_cons_succ, i64_w, i32_w]
  rfl
 refine one_ (i := 3) (N := some 9) #[true, true, true, true, true, true, false, false, false] rfl rfl (one_of HT_.out (by kernel_rfl)) (by decide) (fun K hK => ?_)
 refine goes_ Try.func61 (by kernel_rfl) rfl #[.agg #[.slice A0 l0.length c0, .slice A1 l1.length c1], .int .i64 n] (by rfl) rfl rfl (by (try simp only [List.map_toArray, List.map_cons, List.map_nil]); rfl) ?_
 refine (impl_set_has.calls A0 c0 l0 A1 c1 l1 n x _ K0.out q0 K1.out q1 HX.out).mono ?_
 rintro e w1 ⟨rfl, hb⟩
 refine ⟨_, rfl, ?_⟩
 replace BF := Aside0.mk (blk_below BF.out hb)
 replace BA := Aside0.mk (blk_below BA.out hb)
 replace BB := Aside0.mk (blk_below BB.out hb)
 replace K0 := Aside0.mk (Kd.C_below K0.out hb)
 replace K1 := Aside0.mk (Kd.C_below K1.out hb)
 replace K2 := Aside0.mk (Kd.C_below K2.out hb)
 replace K3 := Aside0.mk (Kd.C_below K3.out hb)
 replace HB := Aside0.mk (below_step HB.out hb)
 replace HW := Aside0.mk (below_step HW.out hb)
 clear hb
 refine hK.out _ _ ⟨(blk_cell BF.out 0).trans rfl, (blk_cell BA.out 0).trans rfl, (blk_cell BA.out 1).trans rfl, (blk_cell BB.out 0).trans rfl, (blk_cell BB.out 1).trans rfl⟩ (fun hHeld => ?_)
 clear hK K
 refine norm_ (a' := ?_) ?_ ?_
 rotate_left
 ·show Act.put _ (some 9) _ = _
  simp only [Act.put, List.setIfInBounds_toArray, List.set_cons_zero, List.set_cons_succ, i64_w, i32_w]
  rfl
 refine one_ (i := 6) (N := some 12) #[true, true, true, true, true, true, true, false, false] rfl rfl (one_of HT_.out (by kernel_rfl)) (by decide) (fun K hK => ?_)
 refine goes_ Try.func61 (by kernel_rfl) rfl #[.agg #[.slice A2 l2.length c2, .slice A3 l3.length c3], .int .i64 n] (by rfl) rfl rfl (by (try simp only [List.map_toArray, List.map_cons, List.map_nil]); rfl) ?_
 refine (impl_set_has.calls A2 c2 l2 A3 c3 l3 n y _ K2.out q2 K3.out q3 HY.out).mono ?_
 rintro e w1 ⟨rfl, hb⟩
 refine ⟨_, rfl, ?_⟩
 replace BF := Aside0.mk (blk_below BF.out hb)
 replace BA := Aside0.mk (blk_below BA.out hb)
 replace BB := Aside0.mk (blk_below BB.out hb)
 replace K0 := Aside0.mk (Kd.C_below K0.out hb)
 replace K1 := Aside0.mk (Kd.C_below K1.out hb)
 replace K2 := Aside0.mk (Kd.C_below K2.out hb)
 replace K3 := Aside0.mk (Kd.C_below K3.out hb)
 replace HB := Aside0.mk (below_step HB.out hb)
 replace HW := Aside0.mk (below_step HW.out hb)
 clear hb
 refine hK.out _ _ ⟨(blk_cell BF.out 0).trans rfl, (blk_cell BA.out 0).trans rfl, (blk_cell BA.out 1).trans rfl, (blk_cell BB.out 0).trans rfl, (blk_cell BB.out 1).trans rfl⟩ (fun hHeld => ?_)
 clear hK K
 refine norm_ (a' := ?_) ?_ ?_
 rotate_left
 ·show Act.put _ (some 12) _ = _
  simp only [Act.put, List.setIfInBounds_toArray, List.set_cons_zero, List.set_cons_succ, i64_w, i32_w]
  rfl
 refine one_ (i := 7) (N := some 13) #[true, true, true, true, true, true, true, true, false] rfl rfl (one_of HT_.out (by kernel_rfl)) (by decide) (fun K hK => ?_)
 refine impl_pair.goesV_ EG.out #[.bool x, .bool y] (by rfl) rfl rfl (by rfl) (by (try simp only [List.map_toArray, List.map_cons, List.map_nil]); rfl) ?_
 refine (HZ.out x y _ HW.out).mono ?_
 rintro e w1 ⟨rfl, hb⟩
 refine ⟨_, rfl, ?_⟩
 replace BF := Aside0.mk (blk_below BF.out hb)
 replace BA := Aside0.mk (blk_below BA.out hb)
 replace BB := Aside0.mk (blk_below BB.out hb)
 replace K0 := Aside0.mk (Kd.C_below K0.out hb)
 replace K1 := Aside0.mk (Kd.C_below K1.out hb)
 replace K2 := Aside0.mk (Kd.C_below K2.out hb)
 replace K3 := Aside0.mk (Kd.C_below K3.out hb)
 replace HB := Aside0.mk (below_step HB.out hb)
 replace HW := Aside0.mk (below_step HW.out hb)
 clear hb
 refine hK.out _ _ ⟨(blk_cell BF.out 0).trans rfl, (blk_cell BA.out 0).trans rfl, (blk_cell BA.out 1).trans rfl, (blk_cell BB.out 0).trans rfl, (blk_cell BB.out 1).trans rfl⟩ (fun hHeld => ?_)
 clear hK K
 refine norm_ (a' := ?_) ?_ ?_
 rotate_left
 ·show Act.put _ (some 13) _ = _
  simp only [Act.put, List.setIfInBounds_toArray, List.set_cons_zero, List.set_cons_succ, i64_w, i32_w]
  rfl
 refine pure_ (i := 8) (N := some 5) (v := ?_) (a' := ?_) #[true, true, true, true, true, true, true, true, true] rfl rfl (any_of HT_.out (by kernel_rfl)) (fun _ _ _ h => h) (Or.inl ⟨by rfl, ?_⟩) ?_ ?_
 rotate_left
 ·intro w'
  go_simp
  with_reducible rfl
 rotate_left
 ·simp only [Act.put, List.setIfInBounds_toArray, List.set_cons_zero, List.set_cons_succ, i64_w, i32_w]
  rfl
 refine done_ (done_of HT_.out (by kernel_rfl)) ?_
 try go_wp2
 go_ret
 exact ⟨rfl, HB.out⟩
set_option maxHeartbeats 4000000 in
set_option maxRecDepth 100000 in
theorem impl_pair.calls (k : Nat) (a0 a1 : ByteArray) (g0 : Nat) (z : Bool → Bool → Bool) (r1' : ByteArray) (r2' : Bool) (w : World) (eg0 : ∀ args w, (callFunc g0 args).run Try.prog w = .ok (.enter g0 args) w) (hz : impl_pair.Two w g0 z) (h : impl_pair.f k a0 a1 z = some (r1', r2')) :
  Calls Try.prog 82 #[.string a0, .string a1, .func (.func g0) #[] #[]] w fun e w' => e = .returned (.tuple #[.string r1', .bool r2']) ∧ Below w.heap.size w w' := by
 have hmf : ∀ (fn : Fn) (first cap : Array Value) (w : World), (Instr.makeFunc fn first cap).run Try.prog w = .ok (.func fn first cap) w := fun _ _ _ _ => rfl
 unfold impl_pair.f at h
 obtain ⟨⟨t0, r0, o0⟩, hs, h⟩ := Option.bind_eq_some_iff.mp h
 obtain ⟨⟨t1, r1, o1⟩, hu, h⟩ := Option.bind_eq_some_iff.mp h
 have HZ := Aside0.mk hz; have EG := Aside0.mk eg0
 clear hz eg0
 have BZ := Aside0.mk (blk_new w (.cells #[.func (.func g0) #[] #[]] 90))
 have HB : Aside0 (Below w.heap.size w (w.alloc (.cells #[.func (.func g0) #[] #[]] 90))) := ⟨(Below.refl _ w).alloc (Nat.le_refl _) _⟩
 cases o0 with
 | false =>
  simp only [Bool.false_eq_true, if_false, Option.some.injEq, Prod.mk.injEq] at h
  obtain ⟨rfl, rfl⟩ := h
  have HS := Aside0.mk hs
  cases o1 with
  | false =>
   have HU := Aside0.mk hu
   clear hs hu
   go_enter Try.func82, Try.ntmps82
   go_wp2_with (first | ((with_reducible refine gate_callee (f := 60) rfl ?_); refine goesL_ (some 16) rfl rfl Try.func60 (by kernel_rfl) rfl #[.string a0] rfl (by (try simp only [List.map_toArray, List.map_cons, List.map_nil]); rfl) ?_; refine (impl_setOf.calls a0 t0 r0 false _ HS.out).mono ?_; rintro e w0 ⟨v0, v1, rfl, ho0, ho1, hb⟩; refine ⟨_, rfl, ?_⟩; obtain ⟨A0, c0, rfl, q0, k0⟩ := Kd.R_reads ho0; obtain ⟨A1, c1, rfl, q1, k1⟩ := Kd.R_reads ho1; replace BZ := Aside0.mk (blk_below BZ.out hb); replace HB := Aside0.mk (below_step HB.out hb); have K0 := Aside0.mk k0; have K1 := Aside0.mk k1; (try clear hb)) | ((with_reducible refine gate_dst (N := 8) rfl ?_); refine box_event ?hg (N := 8) ?hd (cs := #[.slice none 0 0, .slice none 0 0]) (t := 60) ?hr ?_; (case hd => rfl); (case hg => rfl); (case hr => first | (go_simp; done)); intro gb0 hg wb0 hbox hb; have cb00_ := blk_cell hbox 0; have fb00_ := blk_frozen hbox 0; have cb01_ := blk_cell hbox 1; have fb01_ := blk_frozen hbox 1; have hbs := ((hb).setCell (p := ⟨gb0, 0, none⟩) (by rw [hg]; exact Nat.le_refl _) (.slice A0 t0.length c0)).setCell (p := ⟨gb0, 1, none⟩) (by rw [hg]; exact Nat.le_refl _) (.slice A1 r0.length c1); replace BZ := Aside0.mk (blk_below BZ.out hbs); replace HB := Aside0.mk (below_step HB.out hbs); replace K0 := Aside0.mk (Kd.C_below K0.out hbs); replace K1 := Aside0.mk (Kd.C_below K1.out hbs); have BA := Aside0.mk (impl_starred.set2 (u' := .slice A0 t0.length c0) (v' := .slice A1 r0.length c1) hbox); clear hg hb hbox hbs) | ((with_reducible refine gate_callee (f := 60) rfl ?_); refine goesL_ (some 21) rfl rfl Try.func60 (by kernel_rfl) rfl #[.string a1] rfl (by (try simp only [List.map_toArray, List.map_cons, List.map_nil]); rfl) ?_; refine (impl_setOf.calls a1 t1 r1 false _ HU.out).mono ?_; rintro e w1 ⟨v0, v1, rfl, ho0, ho1, hb⟩; refine ⟨_, rfl, ?_⟩; obtain ⟨A2, c2, rfl, q2, k0⟩ := Kd.R_reads ho0; obtain ⟨A3, c3, rfl, q3, k1⟩ := Kd.R_reads ho1; replace BZ := Aside0.mk (blk_below BZ.out hb); replace HB := Aside0.mk (below_step HB.out hb); replace K0 := Aside0.mk (Kd.C_below K0.out hb); replace K1 := Aside0.mk (Kd.C_below K1.out hb); replace BA := Aside0.mk (blk_below BA.out hb); have K2 := Aside0.mk k0; have K3 := Aside0.mk k1; (try clear hb)) | ((with_reducible refine gate_dst (N := 10) rfl ?_); refine box_event ?hg (N := 10) ?hd (cs := #[.slice none 0 0, .slice none 0 0]) (t := 60) ?hr ?_; (case hd => rfl); (case hg => rfl); (case hr => first | (go_simp; done)); intro gb1 hg wb1 hbox hb; have cb10_ := blk_cell hbox 0; have fb10_ := blk_frozen hbox 0; have cb11_ := blk_cell hbox 1; have fb11_ := blk_frozen hbox 1; have x0_ : wb1.cell? ⟨gb0, 0, none⟩ = some (.slice A0 t0.length c0) := blk_cell (blk_below BA.out hb) 0; have x1_ : wb1.cell? ⟨gb0, 1, none⟩ = some (.slice A1 r0.length c1) := blk_cell (blk_below BA.out hb) 1; have xn_ : gb0 ≠ gb1 := (by have := blk_lt BA.out; omega); have xm_ : gb1 ≠ gb0 := (by omega); have hbs := ((hb).setCell (p := ⟨gb1, 0, none⟩) (by rw [hg]; exact Nat.le_refl _) (.slice A2 t1.length c2)).setCell (p := ⟨gb1, 1, none⟩) (by rw [hg]; exact Nat.le_refl _) (.slice A3 r1.length c3); replace BZ := Aside0.mk (blk_below BZ.out hbs); replace HB := Aside0.mk (below_step HB.out hbs); replace K0 := Aside0.mk (Kd.C_below K0.out hbs); replace K1 := Aside0.mk (Kd.C_below K1.out hbs); replace BA := Aside0.mk (blk_below BA.out hbs); replace K2 := Aside0.mk (Kd.C_below K2.out hbs); replace K3 := Aside0.mk (Kd.C_below K3.out hbs); have BB := Aside0.mk (impl_starred.set2 (u' := .slice A2 t1.length c2) (v' := .slice A3 r1.length c3) hbox); clear hg hb hbox hbs))
   go_ret2
   exact ⟨rfl, HB.out⟩
  | true =>
   have HU := Aside0.mk hu
   clear hs hu
   go_enter Try.func82, Try.ntmps82
   go_wp2_with (first | ((with_reducible refine gate_callee (f := 60) rfl ?_); refine goesL_ (some 16) rfl rfl Try.func60 (by kernel_rfl) rfl #[.string a0] rfl (by (try simp only [List.map_toArray, List.map_cons, List.map_nil]); rfl) ?_; refine (impl_setOf.calls a0 t0 r0 false _ HS.out).mono ?_; rintro e w0 ⟨v0, v1, rfl, ho0, ho1, hb⟩; refine ⟨_, rfl, ?_⟩; obtain ⟨A0, c0, rfl, q0, k0⟩ := Kd.R_reads ho0; obtain ⟨A1, c1, rfl, q1, k1⟩ := Kd.R_reads ho1; replace BZ := Aside0.mk (blk_below BZ.out hb); replace HB := Aside0.mk (below_step HB.out hb); have K0 := Aside0.mk k0; have K1 := Aside0.mk k1; (try clear hb)) | ((with_reducible refine gate_dst (N := 8) rfl ?_); refine box_event ?hg (N := 8) ?hd (cs := #[.slice none 0 0, .slice none 0 0]) (t := 60) ?hr ?_; (case hd => rfl); (case hg => rfl); (case hr => first | (go_simp; done)); intro gb0 hg wb0 hbox hb; have cb00_ := blk_cell hbox 0; have fb00_ := blk_frozen hbox 0; have cb01_ := blk_cell hbox 1; have fb01_ := blk_frozen hbox 1; have hbs := ((hb).setCell (p := ⟨gb0, 0, none⟩) (by rw [hg]; exact Nat.le_refl _) (.slice A0 t0.length c0)).setCell (p := ⟨gb0, 1, none⟩) (by rw [hg]; exact Nat.le_refl _) (.slice A1 r0.length c1); replace BZ := Aside0.mk (blk_below BZ.out hbs); replace HB := Aside0.mk (below_step HB.out hbs); replace K0 := Aside0.mk (Kd.C_below K0.out hbs); replace K1 := Aside0.mk (Kd.C_below K1.out hbs); have BA := Aside0.mk (impl_starred.set2 (u' := .slice A0 t0.length c0) (v' := .slice A1 r0.length c1) hbox); clear hg hb hbox hbs) | ((with_reducible refine gate_callee (f := 60) rfl ?_); refine goesL_ (some 21) rfl rfl Try.func60 (by kernel_rfl) rfl #[.string a1] rfl (by (try simp only [List.map_toArray, List.map_cons, List.map_nil]); rfl) ?_; refine (impl_setOf.calls a1 t1 r1 true _ HU.out).mono ?_; rintro e w1 ⟨v0, v1, rfl, ho0, ho1, hb⟩; refine ⟨_, rfl, ?_⟩; obtain ⟨A2, c2, rfl, q2, k0⟩ := Kd.R_reads ho0; obtain ⟨A3, c3, rfl, q3, k1⟩ := Kd.R_reads ho1; replace BZ := Aside0.mk (blk_below BZ.out hb); replace HB := Aside0.mk (below_step HB.out hb); replace K0 := Aside0.mk (Kd.C_below K0.out hb); replace K1 := Aside0.mk (Kd.C_below K1.out hb); replace BA := Aside0.mk (blk_below BA.out hb); have K2 := Aside0.mk k0; have K3 := Aside0.mk k1; (try clear hb)) | ((with_reducible refine gate_dst (N := 10) rfl ?_); refine box_event ?hg (N := 10) ?hd (cs := #[.slice none 0 0, .slice none 0 0]) (t := 60) ?hr ?_; (case hd => rfl); (case hg => rfl); (case hr => first | (go_simp; done)); intro gb1 hg wb1 hbox hb; have cb10_ := blk_cell hbox 0; have fb10_ := blk_frozen hbox 0; have cb11_ := blk_cell hbox 1; have fb11_ := blk_frozen hbox 1; have x0_ : wb1.cell? ⟨gb0, 0, none⟩ = some (.slice A0 t0.length c0) := blk_cell (blk_below BA.out hb) 0; have x1_ : wb1.cell? ⟨gb0, 1, none⟩ = some (.slice A1 r0.length c1) := blk_cell (blk_below BA.out hb) 1; have xn_ : gb0 ≠ gb1 := (by have := blk_lt BA.out; omega); have xm_ : gb1 ≠ gb0 := (by omega); have hbs := ((hb).setCell (p := ⟨gb1, 0, none⟩) (by rw [hg]; exact Nat.le_refl _) (.slice A2 t1.length c2)).setCell (p := ⟨gb1, 1, none⟩) (by rw [hg]; exact Nat.le_refl _) (.slice A3 r1.length c3); replace BZ := Aside0.mk (blk_below BZ.out hbs); replace HB := Aside0.mk (below_step HB.out hbs); replace K0 := Aside0.mk (Kd.C_below K0.out hbs); replace K1 := Aside0.mk (Kd.C_below K1.out hbs); replace BA := Aside0.mk (blk_below BA.out hbs); replace K2 := Aside0.mk (Kd.C_below K2.out hbs); replace K3 := Aside0.mk (Kd.C_below K3.out hbs); have BB := Aside0.mk (impl_starred.set2 (u' := .slice A2 t1.length c2) (v' := .slice A3 r1.length c3) hbox); clear hg hb hbox hbs))
   go_ret2
   exact ⟨rfl, HB.out⟩
 | true =>
  have HS := Aside0.mk hs
  cases o1 with
  | false =>
   simp only [Bool.false_eq_true, if_false, if_true, Option.some.injEq, Prod.mk.injEq] at h
   obtain ⟨rfl, rfl⟩ := h
   have HU := Aside0.mk hu
   clear hs hu
   go_enter Try.func82, Try.ntmps82
   go_wp2_with (first | ((with_reducible refine gate_callee (f := 60) rfl ?_); refine goesL_ (some 16) rfl rfl Try.func60 (by kernel_rfl) rfl #[.string a0] rfl (by (try simp only [List.map_toArray, List.map_cons, List.map_nil]); rfl) ?_; refine (impl_setOf.calls a0 t0 r0 true _ HS.out).mono ?_; rintro e w0 ⟨v0, v1, rfl, ho0, ho1, hb⟩; refine ⟨_, rfl, ?_⟩; obtain ⟨A0, c0, rfl, q0, k0⟩ := Kd.R_reads ho0; obtain ⟨A1, c1, rfl, q1, k1⟩ := Kd.R_reads ho1; replace BZ := Aside0.mk (blk_below BZ.out hb); replace HB := Aside0.mk (below_step HB.out hb); have K0 := Aside0.mk k0; have K1 := Aside0.mk k1; (try clear hb)) | ((with_reducible refine gate_dst (N := 8) rfl ?_); refine box_event ?hg (N := 8) ?hd (cs := #[.slice none 0 0, .slice none 0 0]) (t := 60) ?hr ?_; (case hd => rfl); (case hg => rfl); (case hr => first | (go_simp; done)); intro gb0 hg wb0 hbox hb; have cb00_ := blk_cell hbox 0; have fb00_ := blk_frozen hbox 0; have cb01_ := blk_cell hbox 1; have fb01_ := blk_frozen hbox 1; have hbs := ((hb).setCell (p := ⟨gb0, 0, none⟩) (by rw [hg]; exact Nat.le_refl _) (.slice A0 t0.length c0)).setCell (p := ⟨gb0, 1, none⟩) (by rw [hg]; exact Nat.le_refl _) (.slice A1 r0.length c1); replace BZ := Aside0.mk (blk_below BZ.out hbs); replace HB := Aside0.mk (below_step HB.out hbs); replace K0 := Aside0.mk (Kd.C_below K0.out hbs); replace K1 := Aside0.mk (Kd.C_below K1.out hbs); have BA := Aside0.mk (impl_starred.set2 (u' := .slice A0 t0.length c0) (v' := .slice A1 r0.length c1) hbox); clear hg hb hbox hbs) | ((with_reducible refine gate_callee (f := 60) rfl ?_); refine goesL_ (some 21) rfl rfl Try.func60 (by kernel_rfl) rfl #[.string a1] rfl (by (try simp only [List.map_toArray, List.map_cons, List.map_nil]); rfl) ?_; refine (impl_setOf.calls a1 t1 r1 false _ HU.out).mono ?_; rintro e w1 ⟨v0, v1, rfl, ho0, ho1, hb⟩; refine ⟨_, rfl, ?_⟩; obtain ⟨A2, c2, rfl, q2, k0⟩ := Kd.R_reads ho0; obtain ⟨A3, c3, rfl, q3, k1⟩ := Kd.R_reads ho1; replace BZ := Aside0.mk (blk_below BZ.out hb); replace HB := Aside0.mk (below_step HB.out hb); replace K0 := Aside0.mk (Kd.C_below K0.out hb); replace K1 := Aside0.mk (Kd.C_below K1.out hb); replace BA := Aside0.mk (blk_below BA.out hb); have K2 := Aside0.mk k0; have K3 := Aside0.mk k1; (try clear hb)) | ((with_reducible refine gate_dst (N := 10) rfl ?_); refine box_event ?hg (N := 10) ?hd (cs := #[.slice none 0 0, .slice none 0 0]) (t := 60) ?hr ?_; (case hd => rfl); (case hg => rfl); (case hr => first | (go_simp; done)); intro gb1 hg wb1 hbox hb; have cb10_ := blk_cell hbox 0; have fb10_ := blk_frozen hbox 0; have cb11_ := blk_cell hbox 1; have fb11_ := blk_frozen hbox 1; have x0_ : wb1.cell? ⟨gb0, 0, none⟩ = some (.slice A0 t0.length c0) := blk_cell (blk_below BA.out hb) 0; have x1_ : wb1.cell? ⟨gb0, 1, none⟩ = some (.slice A1 r0.length c1) := blk_cell (blk_below BA.out hb) 1; have xn_ : gb0 ≠ gb1 := (by have := blk_lt BA.out; omega); have xm_ : gb1 ≠ gb0 := (by omega); have hbs := ((hb).setCell (p := ⟨gb1, 0, none⟩) (by rw [hg]; exact Nat.le_refl _) (.slice A2 t1.length c2)).setCell (p := ⟨gb1, 1, none⟩) (by rw [hg]; exact Nat.le_refl _) (.slice A3 r1.length c3); replace BZ := Aside0.mk (blk_below BZ.out hbs); replace HB := Aside0.mk (below_step HB.out hbs); replace K0 := Aside0.mk (Kd.C_below K0.out hbs); replace K1 := Aside0.mk (Kd.C_below K1.out hbs); replace BA := Aside0.mk (blk_below BA.out hbs); replace K2 := Aside0.mk (Kd.C_below K2.out hbs); replace K3 := Aside0.mk (Kd.C_below K3.out hbs); have BB := Aside0.mk (impl_starred.set2 (u' := .slice A2 t1.length c2) (v' := .slice A3 r1.length c3) hbox); clear hg hb hbox hbs))
   go_ret2
   exact ⟨rfl, HB.out⟩
  | true =>
   simp only [if_true] at h
   obtain ⟨⟨qa, qb⟩, hq, h⟩ := Option.bind_eq_some_iff.mp h
   have HU := Aside0.mk hu; have HQ := Aside0.mk hq; have H := Aside0.mk h
   clear hs hu hq h
   go_enter Try.func82, Try.ntmps82
   go_wp2_with (first | ((with_reducible refine gate_callee (f := 60) rfl ?_); refine goesL_ (some 16) rfl rfl Try.func60 (by kernel_rfl) rfl #[.string a0] rfl (by (try simp only [List.map_toArray, List.map_cons, List.map_nil]); rfl) ?_; refine (impl_setOf.calls a0 t0 r0 true _ HS.out).mono ?_; rintro e w0 ⟨v0, v1, rfl, ho0, ho1, hb⟩; refine ⟨_, rfl, ?_⟩; obtain ⟨A0, c0, rfl, q0, k0⟩ := Kd.R_reads ho0; obtain ⟨A1, c1, rfl, q1, k1⟩ := Kd.R_reads ho1; replace BZ := Aside0.mk (blk_below BZ.out hb); replace HB := Aside0.mk (below_step HB.out hb); have K0 := Aside0.mk k0; have K1 := Aside0.mk k1; (try clear hb)) | ((with_reducible refine gate_dst (N := 8) rfl ?_); refine box_event ?hg (N := 8) ?hd (cs := #[.slice none 0 0, .slice none 0 0]) (t := 60) ?hr ?_; (case hd => rfl); (case hg => rfl); (case hr => first | (go_simp; done)); intro gb0 hg wb0 hbox hb; have cb00_ := blk_cell hbox 0; have fb00_ := blk_frozen hbox 0; have cb01_ := blk_cell hbox 1; have fb01_ := blk_frozen hbox 1; have hbs := ((hb).setCell (p := ⟨gb0, 0, none⟩) (by rw [hg]; exact Nat.le_refl _) (.slice A0 t0.length c0)).setCell (p := ⟨gb0, 1, none⟩) (by rw [hg]; exact Nat.le_refl _) (.slice A1 r0.length c1); replace BZ := Aside0.mk (blk_below BZ.out hbs); replace HB := Aside0.mk (below_step HB.out hbs); replace K0 := Aside0.mk (Kd.C_below K0.out hbs); replace K1 := Aside0.mk (Kd.C_below K1.out hbs); have BA := Aside0.mk (impl_starred.set2 (u' := .slice A0 t0.length c0) (v' := .slice A1 r0.length c1) hbox); clear hg hb hbox hbs) | ((with_reducible refine gate_callee (f := 60) rfl ?_); refine goesL_ (some 21) rfl rfl Try.func60 (by kernel_rfl) rfl #[.string a1] rfl (by (try simp only [List.map_toArray, List.map_cons, List.map_nil]); rfl) ?_; refine (impl_setOf.calls a1 t1 r1 true _ HU.out).mono ?_; rintro e w1 ⟨v0, v1, rfl, ho0, ho1, hb⟩; refine ⟨_, rfl, ?_⟩; obtain ⟨A2, c2, rfl, q2, k0⟩ := Kd.R_reads ho0; obtain ⟨A3, c3, rfl, q3, k1⟩ := Kd.R_reads ho1; replace BZ := Aside0.mk (blk_below BZ.out hb); replace HB := Aside0.mk (below_step HB.out hb); replace K0 := Aside0.mk (Kd.C_below K0.out hb); replace K1 := Aside0.mk (Kd.C_below K1.out hb); replace BA := Aside0.mk (blk_below BA.out hb); have K2 := Aside0.mk k0; have K3 := Aside0.mk k1; (try clear hb)) | ((with_reducible refine gate_dst (N := 10) rfl ?_); refine box_event ?hg (N := 10) ?hd (cs := #[.slice none 0 0, .slice none 0 0]) (t := 60) ?hr ?_; (case hd => rfl); (case hg => rfl); (case hr => first | (go_simp; done)); intro gb1 hg wb1 hbox hb; have cb10_ := blk_cell hbox 0; have fb10_ := blk_frozen hbox 0; have cb11_ := blk_cell hbox 1; have fb11_ := blk_frozen hbox 1; have x0_ : wb1.cell? ⟨gb0, 0, none⟩ = some (.slice A0 t0.length c0) := blk_cell (blk_below BA.out hb) 0; have x1_ : wb1.cell? ⟨gb0, 1, none⟩ = some (.slice A1 r0.length c1) := blk_cell (blk_below BA.out hb) 1; have xn_ : gb0 ≠ gb1 := (by have := blk_lt BA.out; omega); have xm_ : gb1 ≠ gb0 := (by omega); have hbs := ((hb).setCell (p := ⟨gb1, 0, none⟩) (by rw [hg]; exact Nat.le_refl _) (.slice A2 t1.length c2)).setCell (p := ⟨gb1, 1, none⟩) (by rw [hg]; exact Nat.le_refl _) (.slice A3 r1.length c3); replace BZ := Aside0.mk (blk_below BZ.out hbs); replace HB := Aside0.mk (below_step HB.out hbs); replace K0 := Aside0.mk (Kd.C_below K0.out hbs); replace K1 := Aside0.mk (Kd.C_below K1.out hbs); replace BA := Aside0.mk (blk_below BA.out hbs); replace K2 := Aside0.mk (Kd.C_below K2.out hbs); replace K3 := Aside0.mk (Kd.C_below K3.out hbs); have BB := Aside0.mk (impl_starred.set2 (u' := .slice A2 t1.length c2) (v' := .slice A3 r1.length c3) hbox); clear hg hb hbox hbs) | ((with_reducible refine gate_callee (f := 68) rfl ?_); refine goesL_ (some 33) rfl rfl Try.func68 (by kernel_rfl) rfl #[.agg #[.slice A0 t0.length c0, .slice A1 r0.length c1], .agg #[.slice A2 t1.length c2, .slice A3 r1.length c3]] rfl (by (try simp only [List.map_toArray, List.map_cons, List.map_nil]); rfl) ?_; refine (impl_both.calls k A0 c0 t0 A1 c1 r0 A2 c2 t1 A3 c3 r1 qa qb _ K0.out q0 K1.out q1 K2.out q2 K3.out q3 HQ.out).mono ?_; (try clear cb00_ cb01_ cb10_ cb11_ fb00_ fb01_ fb10_ fb11_ x0_ x1_); rintro e w5 ⟨rfl, hb⟩; refine ⟨_, rfl, ?_⟩; replace BZ := Aside0.mk (blk_below BZ.out hb); replace HB := Aside0.mk (below_step HB.out hb); replace K0 := Aside0.mk (Kd.C_below K0.out hb); replace K1 := Aside0.mk (Kd.C_below K1.out hb); replace BA := Aside0.mk (blk_below BA.out hb); replace K2 := Aside0.mk (Kd.C_below K2.out hb); replace K3 := Aside0.mk (Kd.C_below K3.out hb); replace BB := Aside0.mk (blk_below BB.out hb); have e0_ : w5.cell? ⟨gb0, 0, none⟩ = some (.slice A0 t0.length c0) := blk_cell BA.out 0; (try clear hb)) | ((with_reducible refine gate_callee (f := 79) rfl ?_); refine goesL_ (some 39) rfl rfl Try.func79 (by kernel_rfl) rfl #[.int .i64 qa, .int .i64 qb, .func (.func 113) #[] #[.pointer (some ⟨w.heap.size, 0, none⟩), .pointer (some ⟨gb0, 0, none⟩), .pointer (some ⟨gb1, 0, none⟩)]] rfl (by (try simp only [List.map_toArray, List.map_cons, List.map_nil]); rfl) ?_; refine (impl_made.calls k qa qb (impl_pair.p z t0 r0 t1 r1) 113 #[.pointer (some ⟨w.heap.size, 0, none⟩), .pointer (some ⟨gb0, 0, none⟩), .pointer (some ⟨gb1, 0, none⟩)] r1' r2' _ (fun args_ w_ => enters_ Try.func113 (by kernel_rfl) rfl args_ w_) ?hpx H.out).mono ?_; (case hpx => intro n_ b_ W_ hW_ hb_; exact impl_pair.lit g0 z w EG.out HZ.out w.heap.size gb0 gb1 A0 c0 t0 A1 c1 r0 A2 c2 t1 A3 c3 r1 n_ b_ W_ (below_step HB.out hW_) (blk_below BZ.out hW_) (blk_below BA.out hW_) (blk_below BB.out hW_) (Kd.C_below K0.out hW_) q0 (Kd.C_below K1.out hW_) q1 (Kd.C_below K2.out hW_) q2 (Kd.C_below K3.out hW_) q3 hb_); rintro e w6 ⟨rfl, hb⟩; refine ⟨_, rfl, ?_⟩; replace BZ := Aside0.mk (blk_below BZ.out hb); replace HB := Aside0.mk (below_step HB.out hb); replace K0 := Aside0.mk (Kd.C_below K0.out hb); replace K1 := Aside0.mk (Kd.C_below K1.out hb); replace BA := Aside0.mk (blk_below BA.out hb); replace K2 := Aside0.mk (Kd.C_below K2.out hb); replace K3 := Aside0.mk (Kd.C_below K3.out hb); replace BB := Aside0.mk (blk_below BB.out hb); (try clear hb)))
   go_ret2
   exact ⟨rfl, HB.out⟩
def impl_MakeEither.f (k : Nat) (a0 a1 : ByteArray) : Option (ByteArray × Bool) := impl_pair.f k a0 a1 (fun a b => a || b)
theorem impl_MakeEither.mono : ∀ a0 a1 k, LeO (impl_MakeEither.f k a0 a1) (impl_MakeEither.f (k + 1) a0 a1) := fun a0 a1 k => impl_pair.mono a0 a1 _ k
set_option maxHeartbeats 1000000 in
set_option maxRecDepth 100000 in
theorem impl_MakeEither.two (w : World) : impl_pair.Two w 83 (fun a b => a || b) := by
 intro a b W hw
 clear hw
 cases a with
 | false =>
  go_enter Try.func83, Try.ntmps83
  go_wp2
  go_ret
  exact ⟨rfl, Below.refl _ _⟩
 | true =>
  go_enter Try.func83, Try.ntmps83
  go_wp2
  go_ret
  exact ⟨rfl, Below.refl _ _⟩
set_option maxHeartbeats 1000000 in
set_option maxRecDepth 100000 in
theorem impl_MakeEither.calls (k : Nat) (a0 : ByteArray) (a1 : ByteArray) (r1 : ByteArray) (r2 : Bool) (w : World) (h : impl_MakeEither.f k a0 a1 = some (r1, r2)) :
  Calls Try.prog 32 #[.string a0, .string a1] w fun e w' => e = .returned (.tuple #[.string r1, .bool r2]) ∧ Below w.heap.size w w' := by
 have C := impl_pair.calls k a0 a1 83 _ r1 r2 w (fun args_ w_ => enters_ Try.func83 (by kernel_rfl) rfl args_ w_) (impl_MakeEither.two w) h
 clear h
 go_enter Try.func32, Try.ntmps32
 go_wp2_with (go_at_call 82; refine C.mono ?_; rintro e w' ⟨rfl, hb⟩)
 go_ret2
 exact ⟨rfl, hb⟩
end Go.Proofs.Ytpkpgdlbgcjloaa.Q
