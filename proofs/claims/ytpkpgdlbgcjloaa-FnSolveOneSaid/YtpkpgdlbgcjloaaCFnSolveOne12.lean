/- The law FnSolveOne holds for all that it draws. -/
import Derived.Test.YtpkpgdlbgcjloaaCFnSolveOne8
import Derived.Test.YtpkpgdlbgcjloaaCFnSolveOne9
import Derived.Test.YtpkpgdlbgcjloaaCFnSolveOne10
import Derived.Test.YtpkpgdlbgcjloaaCFnSolveOne11
namespace Go.Proofs.Ytpkpgdlbgcjloaa.Q
open Go.RowKit Go.Proofs.YtpkpgdlbgcjloaaW.PrintWords Go.Proofs.YtpkpgdlbgcjloaaW.PrintLast Go.Proofs.YtpkpgdlbgcjloaaW.PrintMore
attribute [local go_sem] max2_int min2_int max_two min_two max_three min_three max_four min_four   -- for this text's walks alone
set_option linter.unusedVariables false
set_option linter.unusedSimpArgs false
mutual
def spec_l8Least.l0 : Nat → Int → List Bool → Int → List Bool → List Bool → List Bool → List Bool → Option (List Bool)
 | 0, _, _, _, _, _, _, _ => none
 | k + 1, x2, x7, x8, x373000, x373001, x374000, x374001 => if x8 < x2 then ((spec_l1Has.f x374000 x374001 x8).bind fun t377 => (if 0 ≤ x8 then (if x8 < (x7.length : Int) then (spec_l8Least.l1 k x2 (x7.set (x8 : Int).toNat t377) x8 1 x373000 x373001 x374000 x374001) else (none)) else (none))) else (some x7)
def spec_l8Least.l1 : Nat → Int → List Bool → Int → Int → List Bool → List Bool → List Bool → List Bool → Option (List Bool)
 | 0, _, _, _, _, _, _, _, _ => none
 | k + 1, x2, x7, x8, x9, x373000, x373001, x374000, x374001 => if x9 ≤ x8 then (if 0 ≤ x8 then (if x8 < (x7.length : Int) then (if rdOf false x7 x8 = true then (spec_l8Least.l1 k x2 (x7.set (x8 : Int).toNat true) x8 (wrap64 (x9 + 1)) x373000 x373001 x374000 x374001) else ((spec_l1Has.f x373000 x373001 x9).bind fun t381 => (if t381 = true then (if 0 ≤ (wrap64 (x8 - x9)) then (if (wrap64 (x8 - x9)) < (x7.length : Int) then (spec_l8Least.l1 k x2 (x7.set (x8 : Int).toNat (rdOf false x7 (wrap64 (x8 - x9)))) x8 (wrap64 (x9 + 1)) x373000 x373001 x374000 x374001) else (none)) else (none)) else (spec_l8Least.l1 k x2 (x7.set (x8 : Int).toNat false) x8 (wrap64 (x9 + 1)) x373000 x373001 x374000 x374001)))) else (none)) else (none)) else (spec_l8Least.l0 k x2 x7 (wrap64 (x8 + 1)) x373000 x373001 x374000 x374001)
end
def spec_l8Least.f (k : Nat) (l0_0 : List Bool) (l0_1 : List Bool) (l1_0 : List Bool) (l1_1 : List Bool) (a2 : Int) : Option (List Bool) := if 0 ≤ a2 then (if (a2 : Int).toNat ≤ 281474976710656 then (spec_l8Least.l0 k a2 (List.replicate (a2 : Int).toNat false) 0 l0_0 l0_1 l1_0 l1_1) else (none)) else (none)
theorem spec_l8Least.mono_l : ∀ k, (∀ y0 y1 y2 y3 y4 y5 y6, LeO (spec_l8Least.l0 k y0 y1 y2 y3 y4 y5 y6) (spec_l8Least.l0 (k + 1) y0 y1 y2 y3 y4 y5 y6)) ∧ (∀ y0 y1 y2 y3 y4 y5 y6 y7, LeO (spec_l8Least.l1 k y0 y1 y2 y3 y4 y5 y6 y7) (spec_l8Least.l1 (k + 1) y0 y1 y2 y3 y4 y5 y6 y7))
 | 0 => ⟨fun _ _ _ _ _ _ _ r h => by simp [spec_l8Least.l0] at h, fun _ _ _ _ _ _ _ _ r h => by simp [spec_l8Least.l1] at h⟩
 | k + 1 => by
  obtain ⟨ih0, ih1⟩ := spec_l8Least.mono_l k
  refine ⟨?_, ?_⟩
  ·intro y0 y1 y2 y3 y4 y5 y6
   unfold spec_l8Least.l0
   repeat' first | (with_reducible exact ih1 _ _ _ _ _ _ _ _) | (with_reducible exact LeO.refl _) | (with_reducible refine LeO.ite ?_ ?_) | (with_reducible refine LeO.bind ?_ (fun _ => ?_))
  ·intro y0 y1 y2 y3 y4 y5 y6 y7
   unfold spec_l8Least.l1
   repeat' first | (with_reducible exact ih0 _ _ _ _ _ _ _) | (with_reducible exact ih1 _ _ _ _ _ _ _ _) | (with_reducible exact LeO.refl _) | (with_reducible refine LeO.ite ?_ ?_) | (with_reducible refine LeO.bind ?_ (fun _ => ?_))
theorem spec_l8Least.mono : ∀ a0 a1 a2 a3 a4 k, LeO (spec_l8Least.f k a0 a1 a2 a3 a4) (spec_l8Least.f (k + 1) a0 a1 a2 a3 a4) := by
 intro a0 a1 a2 a3 a4 k
 obtain ⟨ih0, ih1⟩ := spec_l8Least.mono_l k
 unfold spec_l8Least.f
 repeat' first | (with_reducible exact ih0 _ _ _ _ _ _ _) | (with_reducible exact LeO.refl _) | (with_reducible refine LeO.ite ?_ ?_)
set_option maxHeartbeats 8000000 in
set_option maxRecDepth 100000 in
theorem spec_l8Least.calls (k : Nat) (A0_0 : Option Addr) (c0_0 : Nat) (l0_0 : List Bool) (A0_1 : Option Addr) (c0_1 : Nat) (l0_1 : List Bool) (A1_0 : Option Addr) (c1_0 : Nat) (l1_0 : List Bool) (A1_1 : Option Addr) (c1_1 : Nat) (l1_1 : List Bool) (a2 : Int) (r : List Bool) (w : World) (hr0_0 : Kd.C Kd.bool w A0_0 l0_0.length l0_0) (hc0_0 : l0_0.length ≤ c0_0) (hr0_1 : Kd.C Kd.bool w A0_1 l0_1.length l0_1) (hc0_1 : l0_1.length ≤ c0_1) (hr1_0 : Kd.C Kd.bool w A1_0 l1_0.length l1_0) (hc1_0 : l1_0.length ≤ c1_0) (hr1_1 : Kd.C Kd.bool w A1_1 l1_1.length l1_1) (hc1_1 : l1_1.length ≤ c1_1) (h : spec_l8Least.f k l0_0 l0_1 l1_0 l1_1 a2 = some r) :
  Calls Try.prog 59 #[.agg #[.slice A0_0 l0_0.length c0_0, .slice A0_1 l0_1.length c0_1], .agg #[.slice A1_0 l1_0.length c1_0, .slice A1_1 l1_1.length c1_1], .int .i64 a2] w fun e w' => ∃ v0_ : Value, e = .returned (v0_) ∧ Kd.R Kd.bool 4 w' w.heap.size (fun _ => True) v0_ r ∧ Below w.heap.size w w' := by
 have hu66 := Try.underlying66
 have HR0_0 := aM hr0_0
 have HC0_0 := aM hc0_0
 clear hr0_0 hc0_0
 have HR0_1 := aM hr0_1
 have HC0_1 := aM hc0_1
 clear hr0_1 hc0_1
 have HR1_0 := aM hr1_0
 have HC1_0 := aM hc1_0
 clear hr1_0 hc1_0
 have HR1_1 := aM hr1_1
 have HC1_1 := aM hc1_1
 clear hr1_1 hc1_1
 have HB := aM (Below.refl w.heap.size w)
 have H : (if 0 ≤ a2 then (if (a2 : Int).toNat ≤ 281474976710656 then (spec_l8Least.l0 k a2 (List.replicate (a2 : Int).toNat false) 0 l0_0 l0_1 l1_0 l1_1) else (none)) else (none)) = some r := h
 clear h
 by_cases c4 : 0 ≤ a2
 ·rw [if_pos c4] at H
  have c4b0 := eq_true c4
  have c4b1 : decide (0 ≤ a2) = true := decide_eq_true c4
  clear c4
  by_cases c5 : (a2 : Int).toNat ≤ 281474976710656
  ·rw [if_pos c5] at H
   have c5b0 := eq_true c5
   have c5b1 : decide ((a2 : Int).toNat ≤ 281474976710656) = true := decide_eq_true c5
   clear c5
   obtain ⟨y374, hy374⟩ : ∃ y_ : List Bool, y_ = (List.replicate (a2 : Int).toNat false) := ⟨_, rfl⟩
   replace H : (spec_l8Least.l0 k a2 y374 0 l0_0 l0_1 l1_0 l1_1) = some r := by first | (rw [hy374]; with_reducible exact H)
   have Ny374 := aM hy374
   clear hy374
   have H' := aM H
   clear H
   go_enter Try.func59, Try.ntmps59
   go_wp2_with (first | ((with_reducible refine gate_dst (N := 3) rfl ?_); refine box_event ?hg (N := 3) ?hd (cs := #[.slice A0_0 l0_0.length c0_0, .slice A0_1 l0_1.length c0_1]) (t := 66) ?hr ?_; (case hd => rfl); (case hg => rfl); (case hr => first | (go_simp; done)); intro gb372 hg w6 hbox hb; have BK372 := aM hbox; have GW372 := aM ((by rw [hg]; exact (below_size HB.out) : w.heap.size ≤ gb372)); have GE372 := aM ((by rw [hg]; exact (below_size HB.out) : w.heap.size ≤ gb372)); replace HB := aM (below_step HB.out hb); clear hb hbox hg) | ((with_reducible refine gate_dst (N := 4) rfl ?_); refine box_event ?hg (N := 4) ?hd (cs := #[.slice A1_0 l1_0.length c1_0, .slice A1_1 l1_1.length c1_1]) (t := 66) ?hr ?_; (case hd => rfl); (case hg => rfl); (case hr => first | (go_simp; done)); intro gb373 hg w7 hbox hb; have BK373 := aM hbox; have GW373 := aM ((by rw [hg]; exact (below_size HB.out) : w.heap.size ≤ gb373)); have GE373 := aM ((by rw [hg]; exact (below_size HB.out) : w.heap.size ≤ gb373)); replace HB := aM (below_step HB.out hb); have NB372_373 := aM ((by rw [hg]; exact Nat.ne_of_lt (blk_lt (g := gb372) (o := .cells #[.slice A0_0 l0_0.length c0_0, .slice A0_1 l0_1.length c0_1] 66 (0, 0)) BK372.out) : gb372 ≠ gb373)); have NB373_372 := aM ((by rw [hg]; exact Nat.ne_of_gt (blk_lt (g := gb372) (o := .cells #[.slice A0_0 l0_0.length c0_0, .slice A0_1 l0_1.length c0_1] 66 (0, 0)) BK372.out) : gb373 ≠ gb372)); replace BK372 := aM (blk_below (g := gb372) (o := .cells #[.slice A0_0 l0_0.length c0_0, .slice A0_1 l0_1.length c0_1] 66 (0, 0)) BK372.out hb); clear hb hbox hg) | ((with_reducible refine gate_dst (N := 11) rfl ?_); refine Kd.R_make Kd.bool _ 4 rfl (N := 11) rfl 58 _ _ rfl a2 rfl rfl Try.underlying58 (.bool false) 1 info4 rfl (by decide) (by omega) false (ok := fun _ => True) (okp := fun _ => True) rfl (fun _ hk => hk) trivial (of_decide_eq_true (by (with_reducible assumption))) (Nat.le_trans (Nat.mul_le_mul_right _ (of_decide_eq_true (by (with_reducible assumption)) : a2.toNat ≤ 281474976710656)) (by omega)) (Below.refl _ _) (Nat.le_refl _) ?_; intro v375 w8 ho9 hb hg_ hnew_; clear hg_ hnew_; (rw [← Ny374.out] at ho9); have HO376 := aM (Kd.R_lower ho9 (below_size HB.out)); replace BK372 := aM (blk_below (g := gb372) (o := .cells #[.slice A0_0 l0_0.length c0_0, .slice A0_1 l0_1.length c0_1] 66 (0, 0)) BK372.out hb); replace BK373 := aM (blk_below (g := gb373) (o := .cells #[.slice A1_0 l1_0.length c1_0, .slice A1_1 l1_1.length c1_1] 66 (0, 0)) BK373.out hb); replace HB := aM (below_step HB.out hb); clear hb ho9))
   go_loopg [8] k (fun kq v8 w' => ∃ (x7_1 : List Bool) (x8_1 : Int), v8 = .int .i64 x8_1 ∧ Aside0 (spec_l8Least.l0 kq a2 x7_1 x8_1 l0_0 l0_1 l1_0 l1_1 = some r) ∧ Aside0 (kq ≤ k) ∧ Aside0 (Kd.R Kd.bool 4 w' w.heap.size (fun _ => True) v375 x7_1) ∧ Aside0 (w'.heap[gb372]? = some (.cells #[(.slice A0_0 l0_0.length c0_0), (.slice A0_1 l0_1.length c0_1)] 66 (0, 0))) ∧ Aside0 (w'.heap[gb373]? = some (.cells #[(.slice A1_0 l1_0.length c1_0), (.slice A1_1 l1_1.length c1_1)] 66 (0, 0))) ∧ Aside0 (Below w.heap.size w w'))
   case atStart => exact ⟨(y374), (0), (by rfl), H', ⟨Nat.le_refl _⟩, ⟨by exact HO376.out⟩, ⟨by exact BK372.out⟩, ⟨by exact BK373.out⟩, ⟨HB.out⟩⟩
   case round =>
    clear H'
    try clear c4b0
    try clear c4b1
    try clear c5b0
    try clear c5b1
    obtain ⟨x7_1, x8_1, rfl, HA, HK1, HO_7, BK372, BK373, HB⟩ := hrel
    cases gk with
    | zero => exact absurd HA.out (by simp [spec_l8Least.l0])
    | succ k1 =>
     have H := HA.out
     clear HA
     simp only [spec_l8Least.l0] at H
     by_cases c10 : x8_1 < a2
     ·rw [if_pos c10] at H
      have c10b0 : decide (x8_1 < a2) = true := decide_eq_true c10
      clear c10
      replace H := Option.bind_eq_some_iff.mp H
      obtain ⟨t377, A110, H⟩ := H
      replace H : (if 0 ≤ x8_1 then (if x8_1 < (x7_1.length : Int) then (spec_l8Least.l1 k1 a2 (x7_1.set (x8_1 : Int).toNat t377) x8_1 1 l0_0 l0_1 l1_0 l1_1) else (none)) else (none)) = some r := H
      have A11 := aM A110
      clear A110
      by_cases c12 : 0 ≤ x8_1
      ·rw [if_pos c12] at H
       have c12b0 : decide (0 ≤ x8_1) = true := decide_eq_true c12
       clear c12
       by_cases c13 : x8_1 < (x7_1.length : Int)
       ·rw [if_pos c13] at H
        have c13b0 : decide (x8_1 < (x7_1.length : Int)) = true := decide_eq_true c13
        clear c13
        obtain ⟨y378, hy378⟩ : ∃ y_ : List Bool, y_ = (x7_1.set (x8_1 : Int).toNat t377) := ⟨_, rfl⟩
        replace H : (spec_l8Least.l1 k1 a2 y378 x8_1 1 l0_0 l0_1 l1_0 l1_1) = some r := by first | (rw [hy378]; with_reducible exact H)
        have Ny378 := aM hy378
        clear hy378
        have H' := aM H
        clear H
        have hnb15 := NB373_372.out
        have hnc15 := NB372_373.out
        have hcz16_0 : wr.cell? ⟨gb373, 0, none⟩ = some (.slice A1_0 l1_0.length c1_0) := (blk_cell BK373.out 0).trans rfl
        have hcz16_1 : wr.cell? ⟨gb373, 1, none⟩ = some (.slice A1_1 l1_1.length c1_1) := (blk_cell BK373.out 1).trans rfl
        have hfz16_0 := blk_frozen BK373.out 0
        have hfz16_1 := blk_frozen BK373.out 1
        go_wp2_with (first | ((with_reducible refine gate_callee (f := 67) rfl ?_); refine goesL_ (some 21) rfl rfl Try.func67 (by kernel_rfl) rfl #[.agg #[.slice A1_0 l1_0.length c1_0, .slice A1_1 l1_1.length c1_1], .int .i64 x8_1] rfl (by (try simp only [List.map_toArray, List.map_cons, List.map_nil]); rfl) ?_; (with_reducible refine (spec_l1Has.calls _ _ l1_0 _ _ l1_1 x8_1 t377 _ ?side1 ?side2 ?side3 ?side4 A11.out).mono ?_); (case side1 => repeat (exact (Kd.C_below HR1_0.out HB.out))); (case side2 => exact HC1_0.out); (case side3 => repeat (exact (Kd.C_below HR1_1.out HB.out))); (case side4 => exact HC1_1.out); rintro e w17 ⟨rfl, hb⟩; refine ⟨_, rfl, ?_⟩; replace HO_7 := aM (Kd.R_below HO_7.out hb); replace BK372 := aM (blk_below (g := gb372) (o := .cells #[.slice A0_0 l0_0.length c0_0, .slice A0_1 l0_1.length c0_1] 66 (0, 0)) BK372.out hb); replace BK373 := aM (blk_below (g := gb373) (o := .cells #[.slice A1_0 l1_0.length c1_0, .slice A1_1 l1_1.length c1_1] 66 (0, 0)) BK373.out hb); replace HB := aM (below_step HB.out hb); (try clear hb); have p14 : 0 ≤ (x8_1 : Int) := of_decide_eq_true (by (with_reducible assumption)); have q14 : (x8_1 : Int) < ((x7_1.length : Int) : Int) := of_decide_eq_true (by (with_reducible assumption)); obtain ⟨go14, co14, eo14, gb14, gl14, cl14, HG14⟩ := Kd.R_form HO_7.out (by omega); (cases eo14); have GB14 := aM gb14; have GG14 := aM HG14; clear gb14 gl14 HG14; obtain ⟨hx14_0, hf14_0⟩ := Kd.R_celln false HO_7.out (x8_1 : Int) p14 q14; replace p14 := eq_true p14; replace q14 := eq_true q14; obtain ⟨hy18_, hz18_⟩ := Kd.R_celln false HO_7.out (x8_1 : Int) (of_decide_eq_true (by (with_reducible assumption))) (of_decide_eq_true (by (with_reducible assumption))); have HP18 := Kd.R_putg HO_7.out (x8_1 : Int) t377) | ((with_reducible refine gate_store (t := 4) (p := 22) rfl ?_); refine store_event (t := 4) (p := 22) (v := ?vo_w19) (w1 := (w17.setCell ⟨go14, (x8_1 : Int).toNat, none⟩ (.bool t377))) ?hg ?ho ?hn ?hr ?_; (case ho => rfl); (case hg => rfl); (case hn => rfl); (case hr => first | (go_simp; done)); intro w19 hw; have hg : w17.grownBy w19 (some go14) := (by rw [hw]; exact HP18.2); have hp_ : Kd.R Kd.bool 4 w19 w.heap.size (fun _ => True) (.slice (some ⟨go14, 0, none⟩) x7_1.length co14) y378 := (by rw [hw, Ny378.out]; exact HP18.1); clear HP18; replace BK372 := aM (blk_grown (g := gb372) (o := .cells #[.slice A0_0 l0_0.length c0_0, .slice A0_1 l0_1.length c0_1] 66 (0, 0)) BK372.out hg (Kd.R_ne HO_7.out BK372.out (by decide))); replace BK373 := aM (blk_grown (g := gb373) (o := .cells #[.slice A1_0 l1_0.length c1_0, .slice A1_1 l1_1.length c1_1] 66 (0, 0)) BK373.out hg (Kd.R_ne HO_7.out BK373.out (by decide))); replace HO_7 := aM hp_; replace HB := aM ((by rw [hw]; exact bS (HB.out) GB14.out : Below w.heap.size w w19)); clear hg hw hp_))
        go_loopg [9] k1 (fun kq v9 w' => ∃ (x7_2 : List Bool) (x9_2 : Int), v9 = .int .i64 x9_2 ∧ Aside0 (spec_l8Least.l1 kq a2 x7_2 x8_1 x9_2 l0_0 l0_1 l1_0 l1_1 = some r) ∧ Aside0 (kq ≤ k1) ∧ Aside0 (Kd.R Kd.bool 4 w' w.heap.size (fun _ => True) (.slice (some ⟨go14, 0, none⟩) x7_1.length co14) x7_2) ∧ Aside0 (w'.heap[gb372]? = some (.cells #[(.slice A0_0 l0_0.length c0_0), (.slice A0_1 l0_1.length c0_1)] 66 (0, 0))) ∧ Aside0 (w'.heap[gb373]? = some (.cells #[(.slice A1_0 l1_0.length c1_0), (.slice A1_1 l1_1.length c1_1)] 66 (0, 0))) ∧ Aside0 (Below w.heap.size w w'))
        case atStart => exact ⟨(y378), (1), (by rfl), H', ⟨Nat.le_refl _⟩, ⟨by exact HO_7.out⟩, ⟨by exact BK372.out⟩, ⟨by exact BK373.out⟩, ⟨HB.out⟩⟩
        case round =>
         clear H'
         try clear c10b0
         try clear c12b0
         try clear c13b0
         try clear p14
         try clear q14
         try clear hcz16_0
         try clear hcz16_1
         try clear hfz16_0
         try clear hfz16_1
         try clear hx14_0
         obtain ⟨x7_2, x9_2, rfl, HA, HK2, HO_7, BK372, BK373, HB⟩ := hrel
         have hl7_2 := (Kd.R_reads' HO_7.out).1
         rw [hl7_2] at HO_7
         (try simp only [hl7_2])
         cases gk with
         | zero => exact absurd HA.out (by simp [spec_l8Least.l1])
         | succ k2 =>
          have H := HA.out
          clear HA
          simp only [spec_l8Least.l1] at H
          by_cases c20 : x9_2 ≤ x8_1
          ·rw [if_pos c20] at H
           have c20b0 : decide (x9_2 ≤ x8_1) = true := decide_eq_true c20
           clear c20
           by_cases c21 : 0 ≤ x8_1
           ·rw [if_pos c21] at H
            have c21b0 : decide (0 ≤ x8_1) = true := decide_eq_true c21
            clear c21
            by_cases c22 : x8_1 < (x7_2.length : Int)
            ·rw [if_pos c22] at H
             have c22b0 : decide (x8_1 < (x7_2.length : Int)) = true := decide_eq_true c22
             have c22b0z := c22b0
             clear c22
             obtain ⟨bq23, hbq23⟩ : ∃ b_ : Bool, b_ = (rdOf false x7_2 x8_1) := ⟨_, rfl⟩
             replace H : (if bq23 = true then (spec_l8Least.l1 k2 a2 (x7_2.set (x8_1 : Int).toNat true) x8_1 (wrap64 (x9_2 + 1)) l0_0 l0_1 l1_0 l1_1) else ((spec_l1Has.f l0_0 l0_1 x9_2).bind fun t381 => (if t381 = true then (if 0 ≤ (wrap64 (x8_1 - x9_2)) then (if (wrap64 (x8_1 - x9_2)) < (x7_2.length : Int) then (spec_l8Least.l1 k2 a2 (x7_2.set (x8_1 : Int).toNat (rdOf false x7_2 (wrap64 (x8_1 - x9_2)))) x8_1 (wrap64 (x9_2 + 1)) l0_0 l0_1 l1_0 l1_1) else (none)) else (none)) else (spec_l8Least.l1 k2 a2 (x7_2.set (x8_1 : Int).toNat false) x8_1 (wrap64 (x9_2 + 1)) l0_0 l0_1 l1_0 l1_1)))) = some r := by rw [← hbq23] at H; exact H
             have Nbq23 := aM hbq23
             clear hbq23
             by_cases c24 : bq23 = true
             ·subst c24
              replace H : (spec_l8Least.l1 k2 a2 (x7_2.set (x8_1 : Int).toNat true) x8_1 (wrap64 (x9_2 + 1)) l0_0 l0_1 l1_0 l1_1) = some r := by rw [if_pos rfl] at H; exact H
              obtain ⟨y380, hy380⟩ : ∃ y_ : List Bool, y_ = (x7_2.set (x8_1 : Int).toNat true) := ⟨_, rfl⟩
              replace H : (spec_l8Least.l1 k2 a2 y380 x8_1 (wrap64 (x9_2 + 1)) l0_0 l0_1 l1_0 l1_1) = some r := by first | (rw [hy380]; with_reducible exact H)
              have Ny380 := aM hy380
              clear hy380
              have H' := aM H
              clear H
              have p379 : 0 ≤ (x8_1 : Int) := of_decide_eq_true (by (with_reducible assumption))
              have q379 : x8_1 < (x7_2.length : Int) := of_decide_eq_true (by (with_reducible assumption))
              obtain ⟨ad379, e379, hx379_0⟩ := Kd.at_bool (Kd.R_reads' HO_7.out).2.2 x8_1 p379 q379
              (try rw [← Nbq23.out] at hx379_0)
              obtain rfl : (⟨go14, 0, none⟩ : Addr) = ad379 := (by injection e379)
              (simp only [add_plain] at hx379_0)
              replace p379 := eq_true p379
              replace q379 := eq_true q379
              have p25 : 0 ≤ (x8_1 : Int) := of_decide_eq_true (by (with_reducible assumption))
              have q25 : (x8_1 : Int) < ((x7_2.length : Int) : Int) := of_decide_eq_true (by (with_reducible assumption))
              obtain ⟨hx25_0, hf25_0⟩ := Kd.R_celln false HO_7.out (x8_1 : Int) p25 q25
              replace p25 := eq_true p25
              replace q25 := eq_true q25
              have HP26 := Kd.R_putg HO_7.out (x8_1 : Int) true
              go_wp2_with (first | ((with_reducible refine gate_store (t := 4) (p := 47) rfl ?_); refine store_event (t := 4) (p := 47) (v := ?vo_w27) (w1 := (wr.setCell ⟨go14, (x8_1 : Int).toNat, none⟩ (.bool true))) ?hg ?ho ?hn ?hr ?_; (case ho => rfl); (case hg => rfl); (case hn => rfl); (case hr => first | (go_simp; done)); intro w27 hw; have hg : wr.grownBy w27 (some go14) := (by rw [hw]; exact HP26.2); have hp_ : Kd.R Kd.bool 4 w27 w.heap.size (fun _ => True) (.slice (some ⟨go14, 0, none⟩) x7_2.length co14) y380 := (by rw [hw, Ny380.out]; exact HP26.1); clear HP26; replace BK372 := aM (blk_grown (g := gb372) (o := .cells #[.slice A0_0 l0_0.length c0_0, .slice A0_1 l0_1.length c0_1] 66 (0, 0)) BK372.out hg (Kd.R_ne HO_7.out BK372.out (by decide))); replace BK373 := aM (blk_grown (g := gb373) (o := .cells #[.slice A1_0 l1_0.length c1_0, .slice A1_1 l1_1.length c1_1] 66 (0, 0)) BK373.out hg (Kd.R_ne HO_7.out BK373.out (by decide))); replace HO_7 := aM hp_; replace HB := aM ((by rw [hw]; exact bS (HB.out) GB14.out : Below w.heap.size w w27)); clear hg hw hp_))
              (try simp only [← hl7_2])
              go_roundg k2
              case measure => have := HK1.out; have := HK2.out; omega
              case rel => exact ⟨(y380), (wrap64 (x9_2 + 1)), (by rfl), H', ⟨by have := HK1.out; have := HK2.out; omega⟩, ⟨by (try simp only [hl7_2]); exact HO_7.out⟩, ⟨by exact BK372.out⟩, ⟨by exact BK373.out⟩, ⟨HB.out⟩⟩
             ·replace c24 := Bool.eq_false_iff.mpr c24
              subst c24
              replace H : ((spec_l1Has.f l0_0 l0_1 x9_2).bind fun t381 => (if t381 = true then (if 0 ≤ (wrap64 (x8_1 - x9_2)) then (if (wrap64 (x8_1 - x9_2)) < (x7_2.length : Int) then (spec_l8Least.l1 k2 a2 (x7_2.set (x8_1 : Int).toNat (rdOf false x7_2 (wrap64 (x8_1 - x9_2)))) x8_1 (wrap64 (x9_2 + 1)) l0_0 l0_1 l1_0 l1_1) else (none)) else (none)) else (spec_l8Least.l1 k2 a2 (x7_2.set (x8_1 : Int).toNat false) x8_1 (wrap64 (x9_2 + 1)) l0_0 l0_1 l1_0 l1_1))) = some r := by rw [if_neg (show ¬ (false = true) by decide)] at H; exact H
              replace H := Option.bind_eq_some_iff.mp H
              obtain ⟨t381, A280, H⟩ := H
              replace H : (if t381 = true then (if 0 ≤ (wrap64 (x8_1 - x9_2)) then (if (wrap64 (x8_1 - x9_2)) < (x7_2.length : Int) then (spec_l8Least.l1 k2 a2 (x7_2.set (x8_1 : Int).toNat (rdOf false x7_2 (wrap64 (x8_1 - x9_2)))) x8_1 (wrap64 (x9_2 + 1)) l0_0 l0_1 l1_0 l1_1) else (none)) else (none)) else (spec_l8Least.l1 k2 a2 (x7_2.set (x8_1 : Int).toNat false) x8_1 (wrap64 (x9_2 + 1)) l0_0 l0_1 l1_0 l1_1)) = some r := H
              have A28 := aM A280
              clear A280
              by_cases c29 : t381 = true
              ·subst c29
               replace H : (if 0 ≤ (wrap64 (x8_1 - x9_2)) then (if (wrap64 (x8_1 - x9_2)) < (x7_2.length : Int) then (spec_l8Least.l1 k2 a2 (x7_2.set (x8_1 : Int).toNat (rdOf false x7_2 (wrap64 (x8_1 - x9_2)))) x8_1 (wrap64 (x9_2 + 1)) l0_0 l0_1 l1_0 l1_1) else (none)) else (none)) = some r := by rw [if_pos rfl] at H; exact H
               obtain ⟨ji30, hji30⟩ : ∃ j_ : Int, (wrap64 (x8_1 - x9_2)) = j_ := ⟨_, rfl⟩
               replace H : (if 0 ≤ (ji30) then (if (ji30) < (x7_2.length : Int) then (spec_l8Least.l1 k2 a2 (x7_2.set (x8_1 : Int).toNat (rdOf false x7_2 (ji30))) x8_1 (wrap64 (x9_2 + 1)) l0_0 l0_1 l1_0 l1_1) else (none)) else (none)) = some r := by first | (rw [hji30] at H; exact H)
               have hji30w : (IntKind.i64.wrap (x8_1 - x9_2)) = ji30 := (i64_w _).trans hji30
               by_cases c31 : 0 ≤ (ji30)
               ·rw [if_pos c31] at H
                have c31b0 : decide (0 ≤ (ji30)) = true := decide_eq_true c31
                clear c31
                by_cases c32 : (ji30) < (x7_2.length : Int)
                ·rw [if_pos c32] at H
                 have c32b0 : decide ((ji30) < (x7_2.length : Int)) = true := decide_eq_true c32
                 have c32b0z := c32b0
                 clear c32
                 obtain ⟨y383, hy383⟩ : ∃ y_ : List Bool, y_ = (x7_2.set (x8_1 : Int).toNat (rdOf false x7_2 (ji30))) := ⟨_, rfl⟩
                 replace H : (spec_l8Least.l1 k2 a2 y383 x8_1 (wrap64 (x9_2 + 1)) l0_0 l0_1 l1_0 l1_1) = some r := by first | (rw [hy383]; with_reducible exact H)
                 have Ny383 := aM hy383
                 clear hy383
                 have H' := aM H
                 clear H
                 have p379 : 0 ≤ (x8_1 : Int) := of_decide_eq_true (by (with_reducible assumption))
                 have q379 : x8_1 < (x7_2.length : Int) := of_decide_eq_true (by (with_reducible assumption))
                 obtain ⟨ad379, e379, hx379_0⟩ := Kd.at_bool (Kd.R_reads' HO_7.out).2.2 x8_1 p379 q379
                 (try rw [← Nbq23.out] at hx379_0)
                 obtain rfl : (⟨go14, 0, none⟩ : Addr) = ad379 := (by injection e379)
                 (simp only [add_plain] at hx379_0)
                 replace p379 := eq_true p379
                 replace q379 := eq_true q379
                 have hnb34 := NB372_373.out
                 have hnc34 := NB373_372.out
                 have hcz35_0 : wr.cell? ⟨gb372, 0, none⟩ = some (.slice A0_0 l0_0.length c0_0) := (blk_cell BK372.out 0).trans rfl
                 have hcz35_1 : wr.cell? ⟨gb372, 1, none⟩ = some (.slice A0_1 l0_1.length c0_1) := (blk_cell BK372.out 1).trans rfl
                 have hfz35_0 := blk_frozen BK372.out 0
                 have hfz35_1 := blk_frozen BK372.out 1
                 go_wp2_with (first | (go_at_call 67; (with_reducible refine (spec_l1Has.calls _ _ l0_0 _ _ l0_1 x9_2 true _ ?side1 ?side2 ?side3 ?side4 A28.out).mono ?_); (case side1 => repeat (exact (Kd.C_below HR0_0.out HB.out))); (case side2 => exact HC0_0.out); (case side3 => repeat (exact (Kd.C_below HR0_1.out HB.out))); (case side4 => exact HC0_1.out); rintro e w36 ⟨rfl, hb⟩; replace HO_7 := aM (Kd.R_below HO_7.out hb); replace BK372 := aM (blk_below (g := gb372) (o := .cells #[.slice A0_0 l0_0.length c0_0, .slice A0_1 l0_1.length c0_1] 66 (0, 0)) BK372.out hb); replace BK373 := aM (blk_below (g := gb373) (o := .cells #[.slice A1_0 l1_0.length c1_0, .slice A1_1 l1_1.length c1_1] 66 (0, 0)) BK373.out hb); replace HB := aM (below_step HB.out hb); (try clear hb); have p382 : 0 ≤ ((ji30) : Int) := of_decide_eq_true (by (with_reducible assumption)); have q382 : (ji30) < (x7_2.length : Int) := of_decide_eq_true (by (with_reducible assumption)); obtain ⟨ad382, e382, hx382_0⟩ := Kd.at_bool (Kd.R_reads' HO_7.out).2.2 (ji30) p382 q382; obtain rfl : (⟨go14, 0, none⟩ : Addr) = ad382 := (by injection e382); (simp only [add_plain] at hx382_0); replace p382 := eq_true p382; replace q382 := eq_true q382; have p33 : 0 ≤ (x8_1 : Int) := of_decide_eq_true (by (with_reducible assumption)); have q33 : (x8_1 : Int) < ((x7_2.length : Int) : Int) := of_decide_eq_true (by (with_reducible assumption)); obtain ⟨hx33_0, hf33_0⟩ := Kd.R_celln false HO_7.out (x8_1 : Int) p33 q33; replace p33 := eq_true p33; replace q33 := eq_true q33; obtain ⟨hy37_, hz37_⟩ := Kd.R_celln false HO_7.out (x8_1 : Int) (of_decide_eq_true (by (with_reducible assumption))) (of_decide_eq_true (by (with_reducible assumption))); have HP37 := Kd.R_putg HO_7.out (x8_1 : Int) (rdOf false x7_2 (ji30))) | ((with_reducible refine gate_store (t := 4) (p := 47) rfl ?_); refine store_event (t := 4) (p := 47) (v := ?vo_w38) (w1 := (w36.setCell ⟨go14, (x8_1 : Int).toNat, none⟩ (.bool (rdOf false x7_2 (ji30))))) ?hg ?ho ?hn ?hr ?_; (case ho => rfl); (case hg => rfl); (case hn => rfl); (case hr => first | (go_simp; done)); intro w38 hw; have hg : w36.grownBy w38 (some go14) := (by rw [hw]; exact HP37.2); have hp_ : Kd.R Kd.bool 4 w38 w.heap.size (fun _ => True) (.slice (some ⟨go14, 0, none⟩) x7_2.length co14) y383 := (by rw [hw, Ny383.out]; exact HP37.1); clear HP37; replace BK372 := aM (blk_grown (g := gb372) (o := .cells #[.slice A0_0 l0_0.length c0_0, .slice A0_1 l0_1.length c0_1] 66 (0, 0)) BK372.out hg (Kd.R_ne HO_7.out BK372.out (by decide))); replace BK373 := aM (blk_grown (g := gb373) (o := .cells #[.slice A1_0 l1_0.length c1_0, .slice A1_1 l1_1.length c1_1] 66 (0, 0)) BK373.out hg (Kd.R_ne HO_7.out BK373.out (by decide))); replace HO_7 := aM hp_; replace HB := aM ((by rw [hw]; exact bS (HB.out) GB14.out : Below w.heap.size w w38)); clear hg hw hp_))
                 (try simp only [← hl7_2])
                 go_roundg k2
                 case measure => have := HK1.out; have := HK2.out; omega
                 case rel => exact ⟨(y383), (wrap64 (x9_2 + 1)), (by rfl), H', ⟨by have := HK1.out; have := HK2.out; omega⟩, ⟨by (try simp only [hl7_2]); exact HO_7.out⟩, ⟨by exact BK372.out⟩, ⟨by exact BK373.out⟩, ⟨HB.out⟩⟩
                ·rw [if_neg c32] at H
                 exact absurd H (by simp)
               ·rw [if_neg c31] at H
                exact absurd H (by simp)
              ·replace c29 := Bool.eq_false_iff.mpr c29
               subst c29
               replace H : (spec_l8Least.l1 k2 a2 (x7_2.set (x8_1 : Int).toNat false) x8_1 (wrap64 (x9_2 + 1)) l0_0 l0_1 l1_0 l1_1) = some r := by rw [if_neg (show ¬ (false = true) by decide)] at H; exact H
               obtain ⟨y384, hy384⟩ : ∃ y_ : List Bool, y_ = (x7_2.set (x8_1 : Int).toNat false) := ⟨_, rfl⟩
               replace H : (spec_l8Least.l1 k2 a2 y384 x8_1 (wrap64 (x9_2 + 1)) l0_0 l0_1 l1_0 l1_1) = some r := by first | (rw [hy384]; with_reducible exact H)
               have Ny384 := aM hy384
               clear hy384
               have H' := aM H
               clear H
               have p379 : 0 ≤ (x8_1 : Int) := of_decide_eq_true (by (with_reducible assumption))
               have q379 : x8_1 < (x7_2.length : Int) := of_decide_eq_true (by (with_reducible assumption))
               obtain ⟨ad379, e379, hx379_0⟩ := Kd.at_bool (Kd.R_reads' HO_7.out).2.2 x8_1 p379 q379
               (try rw [← Nbq23.out] at hx379_0)
               obtain rfl : (⟨go14, 0, none⟩ : Addr) = ad379 := (by injection e379)
               (simp only [add_plain] at hx379_0)
               replace p379 := eq_true p379
               replace q379 := eq_true q379
               have hnb40 := NB372_373.out
               have hnc40 := NB373_372.out
               have hcz41_0 : wr.cell? ⟨gb372, 0, none⟩ = some (.slice A0_0 l0_0.length c0_0) := (blk_cell BK372.out 0).trans rfl
               have hcz41_1 : wr.cell? ⟨gb372, 1, none⟩ = some (.slice A0_1 l0_1.length c0_1) := (blk_cell BK372.out 1).trans rfl
               have hfz41_0 := blk_frozen BK372.out 0
               have hfz41_1 := blk_frozen BK372.out 1
               go_wp2_with (first | (go_at_call 67; (with_reducible refine (spec_l1Has.calls _ _ l0_0 _ _ l0_1 x9_2 false _ ?side1 ?side2 ?side3 ?side4 A28.out).mono ?_); (case side1 => repeat (exact (Kd.C_below HR0_0.out HB.out))); (case side2 => exact HC0_0.out); (case side3 => repeat (exact (Kd.C_below HR0_1.out HB.out))); (case side4 => exact HC0_1.out); rintro e w42 ⟨rfl, hb⟩; replace HO_7 := aM (Kd.R_below HO_7.out hb); replace BK372 := aM (blk_below (g := gb372) (o := .cells #[.slice A0_0 l0_0.length c0_0, .slice A0_1 l0_1.length c0_1] 66 (0, 0)) BK372.out hb); replace BK373 := aM (blk_below (g := gb373) (o := .cells #[.slice A1_0 l1_0.length c1_0, .slice A1_1 l1_1.length c1_1] 66 (0, 0)) BK373.out hb); replace HB := aM (below_step HB.out hb); (try clear hb); have p39 : 0 ≤ (x8_1 : Int) := of_decide_eq_true (by (with_reducible assumption)); have q39 : (x8_1 : Int) < ((x7_2.length : Int) : Int) := of_decide_eq_true (by (with_reducible assumption)); obtain ⟨hx39_0, hf39_0⟩ := Kd.R_celln false HO_7.out (x8_1 : Int) p39 q39; replace p39 := eq_true p39; replace q39 := eq_true q39; obtain ⟨hy43_, hz43_⟩ := Kd.R_celln false HO_7.out (x8_1 : Int) (of_decide_eq_true (by (with_reducible assumption))) (of_decide_eq_true (by (with_reducible assumption))); have HP43 := Kd.R_putg HO_7.out (x8_1 : Int) false) | ((with_reducible refine gate_store (t := 4) (p := 47) rfl ?_); refine store_event (t := 4) (p := 47) (v := ?vo_w44) (w1 := (w42.setCell ⟨go14, (x8_1 : Int).toNat, none⟩ (.bool false))) ?hg ?ho ?hn ?hr ?_; (case ho => rfl); (case hg => rfl); (case hn => rfl); (case hr => first | (go_simp; done)); intro w44 hw; have hg : w42.grownBy w44 (some go14) := (by rw [hw]; exact HP43.2); have hp_ : Kd.R Kd.bool 4 w44 w.heap.size (fun _ => True) (.slice (some ⟨go14, 0, none⟩) x7_2.length co14) y384 := (by rw [hw, Ny384.out]; exact HP43.1); clear HP43; replace BK372 := aM (blk_grown (g := gb372) (o := .cells #[.slice A0_0 l0_0.length c0_0, .slice A0_1 l0_1.length c0_1] 66 (0, 0)) BK372.out hg (Kd.R_ne HO_7.out BK372.out (by decide))); replace BK373 := aM (blk_grown (g := gb373) (o := .cells #[.slice A1_0 l1_0.length c1_0, .slice A1_1 l1_1.length c1_1] 66 (0, 0)) BK373.out hg (Kd.R_ne HO_7.out BK373.out (by decide))); replace HO_7 := aM hp_; replace HB := aM ((by rw [hw]; exact bS (HB.out) GB14.out : Below w.heap.size w w44)); clear hg hw hp_))
               (try simp only [← hl7_2])
               go_roundg k2
               case measure => have := HK1.out; have := HK2.out; omega
               case rel => exact ⟨(y384), (wrap64 (x9_2 + 1)), (by rfl), H', ⟨by have := HK1.out; have := HK2.out; omega⟩, ⟨by (try simp only [hl7_2]); exact HO_7.out⟩, ⟨by exact BK372.out⟩, ⟨by exact BK373.out⟩, ⟨HB.out⟩⟩
            ·rw [if_neg c22] at H
             exact absurd H (by simp)
           ·rw [if_neg c21] at H
            exact absurd H (by simp)
          ·rw [if_neg c20] at H
           have c20b0 : decide (x9_2 ≤ x8_1) = false := decide_eq_false c20
           clear c20
           have H' := aM H
           clear H
           go_wp2
           (try simp only [← hl7_2])
           go_roundg k2
           case measure => have := HK1.out; have := HK2.out; omega
           case rel => exact ⟨(x7_2), (wrap64 (x8_1 + 1)), (by rfl), H', ⟨by have := HK1.out; have := HK2.out; omega⟩, ⟨by (try simp only [hl7_2]); exact HO_7.out⟩, ⟨by exact BK372.out⟩, ⟨by exact BK373.out⟩, ⟨HB.out⟩⟩
       ·rw [if_neg c13] at H
        exact absurd H (by simp)
      ·rw [if_neg c12] at H
       exact absurd H (by simp)
     ·rw [if_neg c10] at H
      have c10b0 : decide (x8_1 < a2) = false := decide_eq_false c10
      clear c10
      obtain rfl := Option.some.inj H
      go_wp2
      go_ret
      exact ⟨_, by first | rfl | (simp [*, errW_none, errW_some] <;> rfl), by exact HO_7.out, HB.out⟩
  ·rw [if_neg c5] at H
   exact absurd H (by simp)
 ·rw [if_neg c4] at H
  exact absurd H (by simp)


mutual
def spec_SolveOne.j0 : Nat → Bool → List Bool → List Bool → List Bool → List Bool → Option (Bool)
 | 0, _, _, _, _, _ => none
 | k + 1, x26, x775000, x775001, x783000, x783001 => if x26 = true then (some false) else ((spec_l1Has.f x775000 x775001 0).bind fun t783 => (if t783 = true then ((spec_l8Least.f k x775000 x775001 x783000 x783001 500).bind fun t784 => (spec_SolveOne.l0 k t784 0)) else (some true)))
def spec_SolveOne.l0 : Nat → List Bool → Int → Option (Bool)
 | 0, _, _ => none
 | k + 1, x9, x10 => if x10 < 500 then (if 0 ≤ x10 then (if x10 < (x9.length : Int) then (if rdOf false x9 x10 = true then (spec_SolveOne.l0 k x9 (wrap64 (x10 + 1))) else (some false)) else (none)) else (none)) else (some true)
end
def spec_SolveOne.f (k : Nat) (a0 : ByteArray) (a1 : ByteArray) : Option (Bool) := (spec_l4Small.f k a0).bind fun bt767 => ((spec_l4Small.f k a1).bind fun bt775 => (if bt767.2.2 = true then (spec_SolveOne.j0 k (!bt775.2.2) bt767.1 bt767.2.1 bt775.1 bt775.2.1) else (spec_SolveOne.j0 k true bt767.1 bt767.2.1 bt775.1 bt775.2.1)))
theorem spec_SolveOne.mono_l : ∀ k, (∀ y0 y1 y2 y3 y4, LeO (spec_SolveOne.j0 k y0 y1 y2 y3 y4) (spec_SolveOne.j0 (k + 1) y0 y1 y2 y3 y4)) ∧ (∀ y0 y1, LeO (spec_SolveOne.l0 k y0 y1) (spec_SolveOne.l0 (k + 1) y0 y1))
 | 0 => ⟨fun _ _ _ _ _ r h => by simp [spec_SolveOne.j0] at h, fun _ _ r h => by simp [spec_SolveOne.l0] at h⟩
 | k + 1 => by
  obtain ⟨ih0, ih1⟩ := spec_SolveOne.mono_l k
  refine ⟨?_, ?_⟩
  ·intro y0 y1 y2 y3 y4
   unfold spec_SolveOne.j0
   repeat' first | (with_reducible exact ih1 _ _) | (with_reducible exact spec_l8Least.mono _ _ _ _ _ _) | (with_reducible exact LeO.refl _) | (with_reducible refine LeO.ite ?_ ?_) | (with_reducible refine LeO.bind ?_ (fun _ => ?_))
  ·intro y0 y1
   unfold spec_SolveOne.l0
   repeat' first | (with_reducible exact ih1 _ _) | (with_reducible exact LeO.refl _) | (with_reducible refine LeO.ite ?_ ?_)
theorem spec_SolveOne.mono : ∀ a0 a1 k, LeO (spec_SolveOne.f k a0 a1) (spec_SolveOne.f (k + 1) a0 a1) := by
 intro a0 a1 k
 obtain ⟨ih0, ih1⟩ := spec_SolveOne.mono_l k
 unfold spec_SolveOne.f
 repeat' first | (with_reducible exact ih0 _ _ _ _ _) | (with_reducible exact spec_l4Small.mono _ _) | (with_reducible refine LeO.ite ?_ ?_) | (with_reducible refine LeO.bind ?_ (fun _ => ?_))
set_option maxHeartbeats 8000000 in
set_option maxRecDepth 100000 in
theorem spec_SolveOne.calls (k : Nat) (a0 : ByteArray) (a1 : ByteArray) (r : Bool) (w : World) (h : spec_SolveOne.f k a0 a1 = some r) :
  Calls Try.prog 26 #[.string a0, .string a1] w fun e w' => e = .returned (.bool r) ∧ Below w.heap.size w w' := by
 have hu66 := Try.underlying66
 have HB := aM (Below.refl w.heap.size w)
 have H : ((spec_l4Small.f k a0).bind fun bt767 => ((spec_l4Small.f k a1).bind fun bt775 => (if bt767.2.2 = true then (spec_SolveOne.j0 k (!bt775.2.2) bt767.1 bt767.2.1 bt775.1 bt775.2.1) else (spec_SolveOne.j0 k true bt767.1 bt767.2.1 bt775.1 bt775.2.1)))) = some r := h
 clear h
 replace H := Option.bind_eq_some_iff.mp H
 obtain ⟨⟨t767, t770, t773⟩, A30, H⟩ := H
 replace H : ((spec_l4Small.f k a1).bind fun bt775 => (if t773 = true then (spec_SolveOne.j0 k (!bt775.2.2) t767 t770 bt775.1 bt775.2.1) else (spec_SolveOne.j0 k true t767 t770 bt775.1 bt775.2.1))) = some r := H
 have A3 := aM A30
 clear A30
 replace H := Option.bind_eq_some_iff.mp H
 obtain ⟨⟨t775, t778, t781⟩, A40, H⟩ := H
 replace H : (if t773 = true then (spec_SolveOne.j0 k (!t781) t767 t770 t775 t778) else (spec_SolveOne.j0 k true t767 t770 t775 t778)) = some r := H
 have A4 := aM A40
 clear A40
 have HC5 := aM H
 clear H
 go_enter Try.func26, Try.ntmps26
 go_upto_region 3 with (first | ((with_reducible refine gate_callee (f := 57) rfl ?_); refine goesL_ (some 13) rfl rfl Try.func57 (by kernel_rfl) rfl #[.string a0] rfl (by (try simp only [List.map_toArray, List.map_cons, List.map_nil]); rfl) ?_; (with_reducible refine (spec_l4Small.calls k a0 t767 t770 t773 _ A3.out).mono ?_); rintro e w6 ⟨v768, v771, rfl, ho0, ho1, hb⟩; refine ⟨_, rfl, ?_⟩; have HO769 := aM (Kd.V_lower (Kd.V_mono (ok' := fun k_ => True) ho0 (fun k_ hk_ => trivial)) (below_size HB.out)); have HO772 := aM (Kd.V_lower (Kd.V_mono (ok' := fun k_ => True) ho1 (fun k_ hk_ => trivial)) (below_size HB.out)); replace HB := aM (below_step HB.out hb); (try clear hb); (try clear ho0); (try clear ho1)) | ((with_reducible refine gate_dst (N := 5) rfl ?_); refine box_event ?hg (N := 5) ?hd (cs := #[.slice none 0 0, .slice none 0 0]) (t := 66) ?hr ?_; (case hd => rfl); (case hg => rfl); (case hr => first | (go_simp; done)); intro gb774 hg w7 hbox hb; replace HO769 := aM (Kd.V_below (Kd.V_elderB HO769.out gb774 (Nat.le_of_eq hg.symm)) hb); replace HO772 := aM (Kd.V_below (Kd.V_elderB HO772.out gb774 (Nat.le_of_eq hg.symm)) hb); have BK774 := aM hbox; have GW774 := aM ((by rw [hg]; exact (below_size HB.out) : w.heap.size ≤ gb774)); have GE774 := aM ((by rw [hg]; exact (below_size HB.out) : w.heap.size ≤ gb774)); replace HB := aM (below_step HB.out hb); clear hb hbox hg; obtain ⟨Ao8, co8, eo8⟩ := Kd.V_slice HO769.out; subst eo8; have hcz9_0 : w7.cell? ⟨gb774, 0, none⟩ = some (.slice none 0 0) := (blk_cell BK774.out 0).trans rfl; have hcz9_1 : w7.cell? ⟨gb774, 1, none⟩ = some (.slice none 0 0) := (blk_cell BK774.out 1).trans rfl; have hfz9_0 := blk_frozen BK774.out 0; have hfz9_1 := blk_frozen BK774.out 1; obtain ⟨Ao10, co10, eo10⟩ := Kd.V_slice HO772.out; subst eo10) | ((with_reducible refine gate_callee (f := 57) rfl ?_); refine goesL_ (some 18) rfl rfl Try.func57 (by kernel_rfl) rfl #[.string a1] rfl (by (try simp only [List.map_toArray, List.map_cons, List.map_nil]); rfl) ?_; (with_reducible refine (spec_l4Small.calls k a1 t775 t778 t781 _ A4.out).mono ?_); rintro e w11 ⟨v776, v779, rfl, ho0, ho1, hb⟩; refine ⟨_, rfl, ?_⟩; replace HO769 := aM (Kd.V_below (by exact (Kd.V_mono (Kd.V_far (p := ⟨gb774, 1, none⟩) (Kd.V_far (p := ⟨gb774, 0, none⟩) (Kd.V_mono HO769.out (fun k_ hk => (⟨hk, hk.2⟩ : _ ∧ k_ ≠ gb774))) (fun _ hk => hk.2) (.slice Ao8 t767.length co8)) (fun _ hk => hk.2) (.slice Ao10 t770.length co10)) (fun _ h_ => h_.1))) hb); replace HO772 := aM (Kd.V_below (by exact (Kd.V_mono (Kd.V_far (p := ⟨gb774, 1, none⟩) (Kd.V_far (p := ⟨gb774, 0, none⟩) (Kd.V_mono HO772.out (fun k_ hk => (⟨hk, hk.2⟩ : _ ∧ k_ ≠ gb774))) (fun _ hk => hk.2) (.slice Ao8 t767.length co8)) (fun _ hk => hk.2) (.slice Ao10 t770.length co10)) (fun _ h_ => h_.1))) hb); have HO777 := aM (Kd.V_lower (Kd.V_mono (ok' := fun k_ => k_ ≠ gb774) ho0 (fun k_ hk_ => (Kd.freshB (g := gb774) (o := .cells #[.slice Ao8 t767.length co8, .slice Ao10 t770.length co10] 66 (0, 0)) (by refine blk_put (cs := #[.slice Ao8 t767.length co8, .slice none 0 0]) ?_ 1 _ rfl; refine blk_put (cs := #[.slice none 0 0, .slice none 0 0]) ?_ 0 _ rfl; exact BK774.out) k_ hk_))) (below_size (by repeat (first | (with_reducible first | exact HB.out | refine bS ?_ GE774.out))))); have HO780 := aM (Kd.V_lower (Kd.V_mono (ok' := fun k_ => k_ ≠ gb774) ho1 (fun k_ hk_ => (Kd.freshB (g := gb774) (o := .cells #[.slice Ao8 t767.length co8, .slice Ao10 t770.length co10] 66 (0, 0)) (by refine blk_put (cs := #[.slice Ao8 t767.length co8, .slice none 0 0]) ?_ 1 _ rfl; refine blk_put (cs := #[.slice none 0 0, .slice none 0 0]) ?_ 0 _ rfl; exact BK774.out) k_ hk_))) (below_size (by repeat (first | (with_reducible first | exact HB.out | refine bS ?_ GE774.out))))); replace BK774 := aM (blk_below (g := gb774) (o := .cells #[.slice Ao8 t767.length co8, .slice Ao10 t770.length co10] 66 (0, 0)) (by refine blk_put (cs := #[.slice Ao8 t767.length co8, .slice none 0 0]) ?_ 1 _ rfl; refine blk_put (cs := #[.slice none 0 0, .slice none 0 0]) ?_ 0 _ rfl; exact BK774.out) hb); replace HB := aM (below_step (by repeat (first | (with_reducible first | exact HB.out | refine bS ?_ GE774.out))) hb); (try clear hb); (try clear ho0); (try clear ho1)) | ((with_reducible refine gate_dst (N := 7) rfl ?_); refine box_event ?hg (N := 7) ?hd (cs := #[.slice none 0 0, .slice none 0 0]) (t := 66) ?hr ?_; (case hd => rfl); (case hg => rfl); (case hr => first | (go_simp; done)); intro gb782 hg w12 hbox hb; replace HO769 := aM (Kd.V_below (Kd.V_elderB HO769.out gb782 (Nat.le_of_eq hg.symm)) hb); replace HO772 := aM (Kd.V_below (Kd.V_elderB HO772.out gb782 (Nat.le_of_eq hg.symm)) hb); replace HO777 := aM (Kd.V_below (Kd.V_elderB HO777.out gb782 (Nat.le_of_eq hg.symm)) hb); replace HO780 := aM (Kd.V_below (Kd.V_elderB HO780.out gb782 (Nat.le_of_eq hg.symm)) hb); have BK782 := aM hbox; have GW782 := aM ((by rw [hg]; exact (below_size HB.out) : w.heap.size ≤ gb782)); have GE782 := aM ((by rw [hg]; exact (below_size HB.out) : w.heap.size ≤ gb782)); replace HB := aM (below_step HB.out hb); have NB774_782 := aM ((by rw [hg]; exact Nat.ne_of_lt (blk_lt (g := gb774) (o := .cells #[.slice Ao8 t767.length co8, .slice Ao10 t770.length co10] 66 (0, 0)) BK774.out) : gb774 ≠ gb782)); have NB782_774 := aM ((by rw [hg]; exact Nat.ne_of_gt (blk_lt (g := gb774) (o := .cells #[.slice Ao8 t767.length co8, .slice Ao10 t770.length co10] 66 (0, 0)) BK774.out) : gb782 ≠ gb774)); replace BK774 := aM (blk_below (g := gb774) (o := .cells #[.slice Ao8 t767.length co8, .slice Ao10 t770.length co10] 66 (0, 0)) BK774.out hb); clear hb hbox hg; obtain ⟨Ao13, co13, eo13⟩ := Kd.V_slice HO777.out; subst eo13; have hnb14 := NB782_774.out; have hnc14 := NB774_782.out; have hcz15_0 : w12.cell? ⟨gb782, 0, none⟩ = some (.slice none 0 0) := (blk_cell BK782.out 0).trans rfl; have hcz15_1 : w12.cell? ⟨gb782, 1, none⟩ = some (.slice none 0 0) := (blk_cell BK782.out 1).trans rfl; have hfz15_0 := blk_frozen BK782.out 0; have hfz15_1 := blk_frozen BK782.out 1; obtain ⟨Ao16, co16, eo16⟩ := Kd.V_slice HO780.out; subst eo16))
 go_cut [26] (fun v26 wc => ∃ (kq : Nat) (x26_4 : Bool), v26 = .bool x26_4 ∧ Aside0 (spec_SolveOne.j0 kq x26_4 t767 t770 t775 t778 = some r) ∧ Aside0 (kq ≤ k) ∧ Aside0 (Kd.V Kd.bool 4 wc w.heap.size (fun k_ => k_ ≠ gb774 ∧ k_ ≠ gb782) (.slice Ao8 t767.length co8) t767) ∧ Aside0 (Kd.V Kd.bool 4 wc w.heap.size (fun k_ => k_ ≠ gb774 ∧ k_ ≠ gb782) (.slice Ao10 t770.length co10) t770) ∧ Aside0 (Kd.V Kd.bool 4 wc w.heap.size (fun k_ => k_ ≠ gb774 ∧ k_ ≠ gb782) (.slice Ao13 t775.length co13) t775) ∧ Aside0 (Kd.V Kd.bool 4 wc w.heap.size (fun k_ => k_ ≠ gb774 ∧ k_ ≠ gb782) (.slice Ao16 t778.length co16) t778) ∧ Aside0 (wc.heap[gb774]? = some (.cells #[(.slice Ao8 t767.length co8), (.slice Ao10 t770.length co10)] 66 (0, 0))) ∧ Aside0 (wc.heap[gb782]? = some (.cells #[(.slice Ao13 t775.length co13), (.slice Ao16 t778.length co16)] 66 (0, 0))) ∧ Aside0 (Below w.heap.size w wc))
 case first =>
  have H := HC5.out
  clear HC5
  by_cases c17 : t773 = true
  ·subst c17
   replace H : (spec_SolveOne.j0 k (!t781) t767 t770 t775 t778) = some r := by rw [if_pos rfl] at H; exact H
   have H' := aM H
   clear H
   go_wp2
   go_meet
   case rel => exact ⟨_, (!t781), (by rfl), H', ⟨by omega⟩, ⟨by exact Kd.V_mono (Kd.V_far (p := ⟨gb782, 1, none⟩) (Kd.V_far (p := ⟨gb782, 0, none⟩) (Kd.V_mono HO769.out (fun k_ hk => (⟨hk, hk.2⟩ : _ ∧ k_ ≠ gb782))) (fun _ hk => hk.2) (.slice Ao13 t775.length co13)) (fun _ hk => hk.2) (.slice Ao16 t778.length co16)) (fun _ hk => ⟨hk.1.1.2, hk.1.2⟩)⟩, ⟨by exact Kd.V_mono (Kd.V_far (p := ⟨gb782, 1, none⟩) (Kd.V_far (p := ⟨gb782, 0, none⟩) (Kd.V_mono HO772.out (fun k_ hk => (⟨hk, hk.2⟩ : _ ∧ k_ ≠ gb782))) (fun _ hk => hk.2) (.slice Ao13 t775.length co13)) (fun _ hk => hk.2) (.slice Ao16 t778.length co16)) (fun _ hk => ⟨hk.1.1.2, hk.1.2⟩)⟩, ⟨by exact Kd.V_mono (Kd.V_far (p := ⟨gb782, 1, none⟩) (Kd.V_far (p := ⟨gb782, 0, none⟩) (Kd.V_mono HO777.out (fun k_ hk => (⟨hk, hk.2⟩ : _ ∧ k_ ≠ gb782))) (fun _ hk => hk.2) (.slice Ao13 t775.length co13)) (fun _ hk => hk.2) (.slice Ao16 t778.length co16)) (fun _ hk => ⟨hk.1.1, hk.1.2⟩)⟩, ⟨by exact Kd.V_mono (Kd.V_far (p := ⟨gb782, 1, none⟩) (Kd.V_far (p := ⟨gb782, 0, none⟩) (Kd.V_mono HO780.out (fun k_ hk => (⟨hk, hk.2⟩ : _ ∧ k_ ≠ gb782))) (fun _ hk => hk.2) (.slice Ao13 t775.length co13)) (fun _ hk => hk.2) (.slice Ao16 t778.length co16)) (fun _ hk => ⟨hk.1.1, hk.1.2⟩)⟩, ⟨by refine blk_far ?_ NB774_782.out _; refine blk_far ?_ NB774_782.out _; exact BK774.out⟩, ⟨by refine blk_put (cs := #[.slice Ao13 t775.length co13, .slice none 0 0]) ?_ 1 _ rfl; refine blk_put (cs := #[.slice none 0 0, .slice none 0 0]) ?_ 0 _ rfl; exact BK782.out⟩, ⟨by repeat (first | (with_reducible first | exact HB.out | refine bS ?_ GE782.out))⟩⟩
  ·replace c17 := Bool.eq_false_iff.mpr c17
   subst c17
   replace H : (spec_SolveOne.j0 k true t767 t770 t775 t778) = some r := by rw [if_neg (show ¬ (false = true) by decide)] at H; exact H
   have H' := aM H
   clear H
   go_wp2
   go_meet
   case rel => exact ⟨_, (true), (by rfl), H', ⟨by omega⟩, ⟨by exact Kd.V_mono (Kd.V_far (p := ⟨gb782, 1, none⟩) (Kd.V_far (p := ⟨gb782, 0, none⟩) (Kd.V_mono HO769.out (fun k_ hk => (⟨hk, hk.2⟩ : _ ∧ k_ ≠ gb782))) (fun _ hk => hk.2) (.slice Ao13 t775.length co13)) (fun _ hk => hk.2) (.slice Ao16 t778.length co16)) (fun _ hk => ⟨hk.1.1.2, hk.1.2⟩)⟩, ⟨by exact Kd.V_mono (Kd.V_far (p := ⟨gb782, 1, none⟩) (Kd.V_far (p := ⟨gb782, 0, none⟩) (Kd.V_mono HO772.out (fun k_ hk => (⟨hk, hk.2⟩ : _ ∧ k_ ≠ gb782))) (fun _ hk => hk.2) (.slice Ao13 t775.length co13)) (fun _ hk => hk.2) (.slice Ao16 t778.length co16)) (fun _ hk => ⟨hk.1.1.2, hk.1.2⟩)⟩, ⟨by exact Kd.V_mono (Kd.V_far (p := ⟨gb782, 1, none⟩) (Kd.V_far (p := ⟨gb782, 0, none⟩) (Kd.V_mono HO777.out (fun k_ hk => (⟨hk, hk.2⟩ : _ ∧ k_ ≠ gb782))) (fun _ hk => hk.2) (.slice Ao13 t775.length co13)) (fun _ hk => hk.2) (.slice Ao16 t778.length co16)) (fun _ hk => ⟨hk.1.1, hk.1.2⟩)⟩, ⟨by exact Kd.V_mono (Kd.V_far (p := ⟨gb782, 1, none⟩) (Kd.V_far (p := ⟨gb782, 0, none⟩) (Kd.V_mono HO780.out (fun k_ hk => (⟨hk, hk.2⟩ : _ ∧ k_ ≠ gb782))) (fun _ hk => hk.2) (.slice Ao13 t775.length co13)) (fun _ hk => hk.2) (.slice Ao16 t778.length co16)) (fun _ hk => ⟨hk.1.1, hk.1.2⟩)⟩, ⟨by refine blk_far ?_ NB774_782.out _; refine blk_far ?_ NB774_782.out _; exact BK774.out⟩, ⟨by refine blk_put (cs := #[.slice Ao13 t775.length co13, .slice none 0 0]) ?_ 1 _ rfl; refine blk_put (cs := #[.slice none 0 0, .slice none 0 0]) ?_ 0 _ rfl; exact BK782.out⟩, ⟨by repeat (first | (with_reducible first | exact HB.out | refine bS ?_ GE782.out))⟩⟩
 case rest =>
  clear HC5
  try clear hcz15_0
  try clear hcz15_1
  try clear hcz9_0
  try clear hcz9_1
  try clear hfz15_0
  try clear hfz15_1
  try clear hfz9_0
  try clear hfz9_1
  obtain ⟨kq, x26_4, rfl, HA, HJ4, HO_775000, HO_775001, HO_783000, HO_783001, BK774, BK782, HB⟩ := hcut
  cases kq with
  | zero => exact absurd HA.out (by simp [spec_SolveOne.j0])
  | succ kj4 =>
   have H := HA.out
   clear HA
   simp only [spec_SolveOne.j0] at H
   by_cases c18 : x26_4 = true
   ·subst c18
    replace H : (some false) = some r := by rw [if_pos rfl] at H; exact H
    obtain rfl := Option.some.inj H
    go_wp2
    go_ret
    exact ⟨by first | rfl | (simp [*, errW_none, errW_some] <;> rfl), HB.out⟩
   ·replace c18 := Bool.eq_false_iff.mpr c18
    subst c18
    replace H : ((spec_l1Has.f t767 t770 0).bind fun t783 => (if t783 = true then ((spec_l8Least.f kj4 t767 t770 t775 t778 500).bind fun t784 => (spec_SolveOne.l0 kj4 t784 0)) else (some true))) = some r := by rw [if_neg (show ¬ (false = true) by decide)] at H; exact H
    replace H := Option.bind_eq_some_iff.mp H
    obtain ⟨t783, A190, H⟩ := H
    replace H : (if t783 = true then ((spec_l8Least.f kj4 t767 t770 t775 t778 500).bind fun t784 => (spec_SolveOne.l0 kj4 t784 0)) else (some true)) = some r := H
    have A19 := aM A190
    clear A190
    by_cases c20 : t783 = true
    ·subst c20
     replace H : ((spec_l8Least.f kj4 t767 t770 t775 t778 500).bind fun t784 => (spec_SolveOne.l0 kj4 t784 0)) = some r := by rw [if_pos rfl] at H; exact H
     replace H := Option.bind_eq_some_iff.mp H
     obtain ⟨t784, A210, H⟩ := H
     replace H : (spec_SolveOne.l0 kj4 t784 0) = some r := H
     have A21 := aM A210
     clear A210
     have H' := aM H
     clear H
     have hnb22 := NB774_782.out
     have hnc22 := NB782_774.out
     have hcz23_0 : wc.cell? ⟨gb774, 0, none⟩ = some (.slice Ao8 t767.length co8) := (blk_cell BK774.out 0).trans rfl
     have hcz23_1 : wc.cell? ⟨gb774, 1, none⟩ = some (.slice Ao10 t770.length co10) := (blk_cell BK774.out 1).trans rfl
     have hfz23_0 := blk_frozen BK774.out 0
     have hfz23_1 := blk_frozen BK774.out 1
     go_wp2_with (first | ((with_reducible refine gate_callee (f := 67) rfl ?_); refine goesL_ (some 28) rfl rfl Try.func67 (by kernel_rfl) rfl #[.agg #[.slice Ao8 t767.length co8, .slice Ao10 t770.length co10], .int .i64 0] rfl (by (try simp only [List.map_toArray, List.map_cons, List.map_nil]); rfl) ?_; (with_reducible refine (spec_l1Has.calls _ _ t767 _ _ t770 0 true _ ?side1 ?side2 ?side3 ?side4 A19.out).mono ?_); (case side1 => repeat (exact (Kd.V_reads' HO_775000.out).2.2)); (case side2 => exact (Kd.V_reads' HO_775000.out).2.1); (case side3 => repeat (exact (Kd.V_reads' HO_775001.out).2.2)); (case side4 => exact (Kd.V_reads' HO_775001.out).2.1); rintro e w24 ⟨rfl, hb⟩; refine ⟨_, rfl, ?_⟩; replace HO_775000 := aM (Kd.V_below HO_775000.out hb); replace HO_775001 := aM (Kd.V_below HO_775001.out hb); replace HO_783000 := aM (Kd.V_below HO_783000.out hb); replace HO_783001 := aM (Kd.V_below HO_783001.out hb); replace BK774 := aM (blk_below (g := gb774) (o := .cells #[.slice Ao8 t767.length co8, .slice Ao10 t770.length co10] 66 (0, 0)) BK774.out hb); replace BK782 := aM (blk_below (g := gb782) (o := .cells #[.slice Ao13 t775.length co13, .slice Ao16 t778.length co16] 66 (0, 0)) BK782.out hb); replace HB := aM (below_step HB.out hb); (try clear hb); have hcz25_0 : w24.cell? ⟨gb774, 0, none⟩ = some (.slice Ao8 t767.length co8) := (blk_cell BK774.out 0).trans rfl; have hcz25_1 : w24.cell? ⟨gb774, 1, none⟩ = some (.slice Ao10 t770.length co10) := (blk_cell BK774.out 1).trans rfl; have hfz25_0 := blk_frozen BK774.out 0; have hfz25_1 := blk_frozen BK774.out 1; have hcz26_0 : w24.cell? ⟨gb782, 0, none⟩ = some (.slice Ao13 t775.length co13) := (blk_cell BK782.out 0).trans rfl; have hcz26_1 : w24.cell? ⟨gb782, 1, none⟩ = some (.slice Ao16 t778.length co16) := (blk_cell BK782.out 1).trans rfl; have hfz26_0 := blk_frozen BK782.out 0; have hfz26_1 := blk_frozen BK782.out 1) | ((with_reducible refine gate_callee (f := 59) rfl ?_); refine goesL_ (some 32) rfl rfl Try.func59 (by kernel_rfl) rfl #[.agg #[.slice Ao8 t767.length co8, .slice Ao10 t770.length co10], .agg #[.slice Ao13 t775.length co13, .slice Ao16 t778.length co16], .int .i64 500] rfl (by (try simp only [List.map_toArray, List.map_cons, List.map_nil]); rfl) ?_; (with_reducible refine (spec_l8Least.calls kj4 _ _ t767 _ _ t770 _ _ t775 _ _ t778 500 t784 _ ?side1 ?side2 ?side3 ?side4 ?side5 ?side6 ?side7 ?side8 A21.out).mono ?_); (case side1 => repeat (exact (Kd.V_reads' HO_775000.out).2.2)); (case side2 => exact (Kd.V_reads' HO_775000.out).2.1); (case side3 => repeat (exact (Kd.V_reads' HO_775001.out).2.2)); (case side4 => exact (Kd.V_reads' HO_775001.out).2.1); (case side5 => repeat (exact (Kd.V_reads' HO_783000.out).2.2)); (case side6 => exact (Kd.V_reads' HO_783000.out).2.1); (case side7 => repeat (exact (Kd.V_reads' HO_783001.out).2.2)); (case side8 => exact (Kd.V_reads' HO_783001.out).2.1); rintro e w27 ⟨v785, rfl, ho0, hb⟩; refine ⟨_, rfl, ?_⟩; replace HO_775000 := aM (Kd.V_elder' HO_775000.out (Kd.R_base ho0) hb); replace HO_775001 := aM (Kd.V_elder' HO_775001.out (Kd.R_base ho0) hb); replace HO_783000 := aM (Kd.V_elder' HO_783000.out (Kd.R_base ho0) hb); replace HO_783001 := aM (Kd.V_elder' HO_783001.out (Kd.R_base ho0) hb); have HO786 := aM (Kd.R_lower ho0 (below_size HB.out)); replace BK774 := aM (blk_below (g := gb774) (o := .cells #[.slice Ao8 t767.length co8, .slice Ao10 t770.length co10] 66 (0, 0)) BK774.out hb); replace BK782 := aM (blk_below (g := gb782) (o := .cells #[.slice Ao13 t775.length co13, .slice Ao16 t778.length co16] 66 (0, 0)) BK782.out hb); replace HB := aM (below_step HB.out hb); (try clear hb); (try clear ho0)))
     go_loopg [10] kj4 (fun kq v10 w' => ∃ (x10_2 : Int), v10 = .int .i64 x10_2 ∧ Aside0 (spec_SolveOne.l0 kq t784 x10_2 = some r) ∧ Aside0 (kq ≤ kj4) ∧ Aside0 (Kd.R Kd.bool 4 w' w.heap.size (fun _ => True) v785 t784) ∧ Aside0 (Kd.V Kd.bool 4 w' w.heap.size (fun k_ => some k_ ≠ (v785 : Value).ownBlock ∧ k_ ≠ gb774 ∧ k_ ≠ gb782) (.slice Ao8 t767.length co8) t767) ∧ Aside0 (Kd.V Kd.bool 4 w' w.heap.size (fun k_ => some k_ ≠ (v785 : Value).ownBlock ∧ k_ ≠ gb774 ∧ k_ ≠ gb782) (.slice Ao10 t770.length co10) t770) ∧ Aside0 (Kd.V Kd.bool 4 w' w.heap.size (fun k_ => some k_ ≠ (v785 : Value).ownBlock ∧ k_ ≠ gb774 ∧ k_ ≠ gb782) (.slice Ao13 t775.length co13) t775) ∧ Aside0 (Kd.V Kd.bool 4 w' w.heap.size (fun k_ => some k_ ≠ (v785 : Value).ownBlock ∧ k_ ≠ gb774 ∧ k_ ≠ gb782) (.slice Ao16 t778.length co16) t778) ∧ Aside0 (w'.heap[gb774]? = some (.cells #[(.slice Ao8 t767.length co8), (.slice Ao10 t770.length co10)] 66 (0, 0))) ∧ Aside0 (w'.heap[gb782]? = some (.cells #[(.slice Ao13 t775.length co13), (.slice Ao16 t778.length co16)] 66 (0, 0))) ∧ Aside0 (Below w.heap.size w w'))
     case atStart => exact ⟨(0), (by rfl), H', ⟨Nat.le_refl _⟩, ⟨by exact HO786.out⟩, ⟨by exact Kd.V_mono HO_775000.out (fun _ hk => ⟨hk.2, ⟨hk.1.1, hk.1.2⟩⟩)⟩, ⟨by exact Kd.V_mono HO_775001.out (fun _ hk => ⟨hk.2, ⟨hk.1.1, hk.1.2⟩⟩)⟩, ⟨by exact Kd.V_mono HO_783000.out (fun _ hk => ⟨hk.2, ⟨hk.1.1, hk.1.2⟩⟩)⟩, ⟨by exact Kd.V_mono HO_783001.out (fun _ hk => ⟨hk.2, ⟨hk.1.1, hk.1.2⟩⟩)⟩, ⟨by exact BK774.out⟩, ⟨by exact BK782.out⟩, ⟨HB.out⟩⟩
     case round =>
      clear H'
      try clear hcz23_0
      try clear hcz23_1
      try clear hcz25_0
      try clear hcz25_1
      try clear hcz26_0
      try clear hcz26_1
      try clear hfz23_0
      try clear hfz23_1
      try clear hfz25_0
      try clear hfz25_1
      try clear hfz26_0
      try clear hfz26_1
      obtain ⟨x10_2, rfl, HA, HK2, HO_9, HO_775000, HO_775001, HO_783000, HO_783001, BK774, BK782, HB⟩ := hrel
      cases gk with
      | zero => exact absurd HA.out (by simp [spec_SolveOne.l0])
      | succ k2 =>
       have H := HA.out
       clear HA
       simp only [spec_SolveOne.l0] at H
       by_cases c28 : x10_2 < 500
       ·rw [if_pos c28] at H
        have c28b0 : decide (x10_2 < 500) = true := decide_eq_true c28
        clear c28
        by_cases c29 : 0 ≤ x10_2
        ·rw [if_pos c29] at H
         have c29b0 : decide (0 ≤ x10_2) = true := decide_eq_true c29
         clear c29
         by_cases c30 : x10_2 < (t784.length : Int)
         ·rw [if_pos c30] at H
          have c30b0 : decide (x10_2 < (t784.length : Int)) = true := decide_eq_true c30
          clear c30
          obtain ⟨bq31, hbq31⟩ : ∃ b_ : Bool, b_ = (rdOf false t784 x10_2) := ⟨_, rfl⟩
          replace H : (if bq31 = true then (spec_SolveOne.l0 k2 t784 (wrap64 (x10_2 + 1))) else (some false)) = some r := by rw [← hbq31] at H; exact H
          have Nbq31 := aM hbq31
          clear hbq31
          by_cases c32 : bq31 = true
          ·subst c32
           replace H : (spec_SolveOne.l0 k2 t784 (wrap64 (x10_2 + 1))) = some r := by rw [if_pos rfl] at H; exact H
           have H' := aM H
           clear H
           obtain ⟨Ao33, co33, eo33⟩ := Kd.R_slice HO_9.out
           subst eo33
           have p787 : 0 ≤ (x10_2 : Int) := of_decide_eq_true (by (with_reducible assumption))
           have q787 : x10_2 < (t784.length : Int) := of_decide_eq_true (by (with_reducible assumption))
           obtain ⟨ad787, e787, hx787_0⟩ := Kd.at_bool (Kd.R_reads' HO_9.out).2.2 x10_2 p787 q787
           (try rw [← Nbq31.out] at hx787_0)
           cases e787
           replace p787 := eq_true p787
           replace q787 := eq_true q787
           go_wp2
           go_roundg k2
           case measure => have := HJ4.out; have := HK2.out; omega
           case rel => exact ⟨(wrap64 (x10_2 + 1)), (by rfl), H', ⟨by have := HJ4.out; have := HK2.out; omega⟩, ⟨by exact HO_9.out⟩, ⟨by exact HO_775000.out⟩, ⟨by exact HO_775001.out⟩, ⟨by exact HO_783000.out⟩, ⟨by exact HO_783001.out⟩, ⟨by exact BK774.out⟩, ⟨by exact BK782.out⟩, ⟨HB.out⟩⟩
          ·replace c32 := Bool.eq_false_iff.mpr c32
           subst c32
           replace H : (some false) = some r := by rw [if_neg (show ¬ (false = true) by decide)] at H; exact H
           obtain rfl := Option.some.inj H
           obtain ⟨Ao34, co34, eo34⟩ := Kd.R_slice HO_9.out
           subst eo34
           have p787 : 0 ≤ (x10_2 : Int) := of_decide_eq_true (by (with_reducible assumption))
           have q787 : x10_2 < (t784.length : Int) := of_decide_eq_true (by (with_reducible assumption))
           obtain ⟨ad787, e787, hx787_0⟩ := Kd.at_bool (Kd.R_reads' HO_9.out).2.2 x10_2 p787 q787
           (try rw [← Nbq31.out] at hx787_0)
           cases e787
           replace p787 := eq_true p787
           replace q787 := eq_true q787
           go_wp2
           go_ret
           exact ⟨by first | rfl | (simp [*, errW_none, errW_some] <;> rfl), HB.out⟩
         ·rw [if_neg c30] at H
          exact absurd H (by simp)
        ·rw [if_neg c29] at H
         exact absurd H (by simp)
       ·rw [if_neg c28] at H
        have c28b0 : decide (x10_2 < 500) = false := decide_eq_false c28
        clear c28
        obtain rfl := Option.some.inj H
        go_wp2
        go_ret
        exact ⟨by first | rfl | (simp [*, errW_none, errW_some] <;> rfl), HB.out⟩
    ·replace c20 := Bool.eq_false_iff.mpr c20
     subst c20
     replace H : (some true) = some r := by rw [if_neg (show ¬ (false = true) by decide)] at H; exact H
     obtain rfl := Option.some.inj H
     have hnb35 := NB774_782.out
     have hnc35 := NB782_774.out
     have hcz36_0 : wc.cell? ⟨gb774, 0, none⟩ = some (.slice Ao8 t767.length co8) := (blk_cell BK774.out 0).trans rfl
     have hcz36_1 : wc.cell? ⟨gb774, 1, none⟩ = some (.slice Ao10 t770.length co10) := (blk_cell BK774.out 1).trans rfl
     have hfz36_0 := blk_frozen BK774.out 0
     have hfz36_1 := blk_frozen BK774.out 1
     go_wp2_with (first | ((with_reducible refine gate_callee (f := 67) rfl ?_); refine goesL_ (some 28) rfl rfl Try.func67 (by kernel_rfl) rfl #[.agg #[.slice Ao8 t767.length co8, .slice Ao10 t770.length co10], .int .i64 0] rfl (by (try simp only [List.map_toArray, List.map_cons, List.map_nil]); rfl) ?_; (with_reducible refine (spec_l1Has.calls _ _ t767 _ _ t770 0 false _ ?side1 ?side2 ?side3 ?side4 A19.out).mono ?_); (case side1 => repeat (exact (Kd.V_reads' HO_775000.out).2.2)); (case side2 => exact (Kd.V_reads' HO_775000.out).2.1); (case side3 => repeat (exact (Kd.V_reads' HO_775001.out).2.2)); (case side4 => exact (Kd.V_reads' HO_775001.out).2.1); rintro e w37 ⟨rfl, hb⟩; refine ⟨_, rfl, ?_⟩; replace HO_775000 := aM (Kd.V_below HO_775000.out hb); replace HO_775001 := aM (Kd.V_below HO_775001.out hb); replace HO_783000 := aM (Kd.V_below HO_783000.out hb); replace HO_783001 := aM (Kd.V_below HO_783001.out hb); replace BK774 := aM (blk_below (g := gb774) (o := .cells #[.slice Ao8 t767.length co8, .slice Ao10 t770.length co10] 66 (0, 0)) BK774.out hb); replace BK782 := aM (blk_below (g := gb782) (o := .cells #[.slice Ao13 t775.length co13, .slice Ao16 t778.length co16] 66 (0, 0)) BK782.out hb); replace HB := aM (below_step HB.out hb); (try clear hb)))
     go_ret
     exact ⟨by first | rfl | (simp [*, errW_none, errW_some] <;> rfl), HB.out⟩


def impl_in.f (a0 : Int) (a1 : Int) (a2 : Int) : Option (Bool) := if a0 ≥ a1 then (some (decide (a0 ≤ a2))) else (some false)
set_option maxHeartbeats 8000000 in
set_option maxRecDepth 100000 in
theorem impl_in.calls (a0 : Int) (a1 : Int) (a2 : Int) (r : Bool) (w : World) (h : impl_in.f a0 a1 a2 = some r) :
  Calls Try.prog 55 #[.int .i64 a0, .int .i64 a1, .int .i64 a2] w fun e w' => e = .returned (.bool r) ∧ Drawn0 w w' := by
 have H : (if a0 ≥ a1 then (some (decide (a0 ≤ a2))) else (some false)) = some r := h
 clear h
 by_cases c4 : a0 ≥ a1
 ·rw [if_pos c4] at H
  have c4b0 : decide (a1 ≤ a0) = true := decide_eq_true c4
  clear c4
  obtain rfl := Option.some.inj H
  go_enter Try.func55, Try.ntmps55
  go_wp2
  go_ret
  exact ⟨by first | rfl | (simp [*]; done), by repeat (exact Drawn0.refl _)⟩
 ·rw [if_neg c4] at H
  have c4b0 : decide (a1 ≤ a0) = false := decide_eq_false c4
  clear c4
  obtain rfl := Option.some.inj H
  go_enter Try.func55, Try.ntmps55
  go_wp2
  go_ret
  exact ⟨by first | rfl | (simp [*]; done), by repeat (exact Drawn0.refl _)⟩


def impl_StarHas.f (k : Nat) (a0 : ByteArray) (a1 : Int) : Option (Bool) := (impl_small.f k a0).bind fun bt788 => (if bt788.2.2 = true then ((impl_in.f a1 0 2000).bind fun t796 => (if t796 = true then ((impl_star.f k bt788.1 bt788.2.1 (wrap64 (a1 + 1))).bind fun t797 => (if 0 ≤ a1 then (if a1 < (t797.length : Int) then (some (rdOf false t797 a1)) else (none)) else (none))) else (some false))) else (some false))
theorem impl_StarHas.mono : ∀ a0 a1 k, LeO (impl_StarHas.f k a0 a1) (impl_StarHas.f (k + 1) a0 a1) := by
 intro a0 a1 k
 unfold impl_StarHas.f
 repeat' first | (with_reducible exact impl_small.mono _ _) | (with_reducible exact impl_star.mono _ _ _ _) | (with_reducible exact LeO.refl _) | (with_reducible refine LeO.ite ?_ ?_) | (with_reducible refine LeO.bind ?_ (fun _ => ?_))
set_option maxHeartbeats 8000000 in
set_option maxRecDepth 100000 in
theorem impl_StarHas.calls (k : Nat) (a0 : ByteArray) (a1 : Int) (r : Bool) (w : World) (h : impl_StarHas.f k a0 a1 = some r) :
  Calls Try.prog 27 #[.string a0, .int .i64 a1] w fun e w' => e = .returned (.bool r) ∧ Below w.heap.size w w' := by
 have hu60 := Try.underlying60
 have HB := aM (Below.refl w.heap.size w)
 have H : ((impl_small.f k a0).bind fun bt788 => (if bt788.2.2 = true then ((impl_in.f a1 0 2000).bind fun t796 => (if t796 = true then ((impl_star.f k bt788.1 bt788.2.1 (wrap64 (a1 + 1))).bind fun t797 => (if 0 ≤ a1 then (if a1 < (t797.length : Int) then (some (rdOf false t797 a1)) else (none)) else (none))) else (some false))) else (some false))) = some r := h
 clear h
 replace H := Option.bind_eq_some_iff.mp H
 obtain ⟨⟨t788, t791, t794⟩, A30, H⟩ := H
 replace H : (if t794 = true then ((impl_in.f a1 0 2000).bind fun t796 => (if t796 = true then ((impl_star.f k t788 t791 (wrap64 (a1 + 1))).bind fun t797 => (if 0 ≤ a1 then (if a1 < (t797.length : Int) then (some (rdOf false t797 a1)) else (none)) else (none))) else (some false))) else (some false)) = some r := H
 have A3 := aM A30
 clear A30
 by_cases c4 : t794 = true
 ·subst c4
  replace H : ((impl_in.f a1 0 2000).bind fun t796 => (if t796 = true then ((impl_star.f k t788 t791 (wrap64 (a1 + 1))).bind fun t797 => (if 0 ≤ a1 then (if a1 < (t797.length : Int) then (some (rdOf false t797 a1)) else (none)) else (none))) else (some false))) = some r := by rw [if_pos rfl] at H; exact H
  replace H := Option.bind_eq_some_iff.mp H
  obtain ⟨t796, A50, H⟩ := H
  replace H : (if t796 = true then ((impl_star.f k t788 t791 (wrap64 (a1 + 1))).bind fun t797 => (if 0 ≤ a1 then (if a1 < (t797.length : Int) then (some (rdOf false t797 a1)) else (none)) else (none))) else (some false)) = some r := H
  have A5 := aM A50
  clear A50
  by_cases c6 : t796 = true
  ·subst c6
   replace H : ((impl_star.f k t788 t791 (wrap64 (a1 + 1))).bind fun t797 => (if 0 ≤ a1 then (if a1 < (t797.length : Int) then (some (rdOf false t797 a1)) else (none)) else (none))) = some r := by rw [if_pos rfl] at H; exact H
   replace H := Option.bind_eq_some_iff.mp H
   obtain ⟨t797, A70, H⟩ := H
   replace H : (if 0 ≤ a1 then (if a1 < (t797.length : Int) then (some (rdOf false t797 a1)) else (none)) else (none)) = some r := H
   have A7 := aM A70
   clear A70
   by_cases c8 : 0 ≤ a1
   ·rw [if_pos c8] at H
    have c8b0 : decide (0 ≤ a1) = true := decide_eq_true c8
    clear c8
    by_cases c9 : a1 < (t797.length : Int)
    ·rw [if_pos c9] at H
     have c9b0 : decide (a1 < (t797.length : Int)) = true := decide_eq_true c9
     clear c9
     obtain rfl := Option.some.inj H
     go_enter Try.func27, Try.ntmps27
     go_wp2_with (first | ((with_reducible refine gate_callee (f := 64) rfl ?_); refine goesL_ (some 9) rfl rfl Try.func64 (by kernel_rfl) rfl #[.string a0] rfl (by (try simp only [List.map_toArray, List.map_cons, List.map_nil]); rfl) ?_; (with_reducible refine (impl_small.calls k a0 t788 t791 true _ A3.out).mono ?_); rintro e w10 ⟨v789, v792, rfl, ho0, ho1, hb⟩; refine ⟨_, rfl, ?_⟩; have HO790 := aM (Kd.R_lower ho0 (below_size HB.out)); have HO793 := aM (Kd.R_lower ho1 (below_size HB.out)); replace HB := aM (below_step HB.out hb); (try clear hb); (try clear ho0); (try clear ho1)) | ((with_reducible refine gate_dst (N := 5) rfl ?_); refine box_event ?hg (N := 5) ?hd (cs := #[.slice none 0 0, .slice none 0 0]) (t := 60) ?hr ?_; (case hd => rfl); (case hg => rfl); (case hr => first | (go_simp; done)); intro gb795 hg w11 hbox hb; replace HO790 := aM (Kd.R_below HO790.out hb); replace HO793 := aM (Kd.R_below HO793.out hb); have BK795 := aM hbox; have GW795 := aM ((by rw [hg]; exact (below_size HB.out) : w.heap.size ≤ gb795)); have GE795 := aM ((by rw [hg]; exact (below_size HB.out) : w.heap.size ≤ gb795)); replace HB := aM (below_step HB.out hb); clear hb hbox hg; obtain ⟨Ao12, co12, eo12⟩ := Kd.R_slice HO790.out; subst eo12; have hcz13_0 : w11.cell? ⟨gb795, 0, none⟩ = some (.slice none 0 0) := (blk_cell BK795.out 0).trans rfl; have hcz13_1 : w11.cell? ⟨gb795, 1, none⟩ = some (.slice none 0 0) := (blk_cell BK795.out 1).trans rfl; have hfz13_0 := blk_frozen BK795.out 0; have hfz13_1 := blk_frozen BK795.out 1; obtain ⟨Ao14, co14, eo14⟩ := Kd.R_slice HO793.out; subst eo14) | (go_at_call 55; (with_reducible refine (impl_in.calls a1 0 2000 true _ A5.out).mono ?_); rintro e w' ⟨rfl, ⟨nd, rfl⟩⟩) | (go_at_call 70; (with_reducible refine (impl_star.calls k _ _ t788 _ _ t791 (wrap64 (a1 + 1)) t797 _ ?side1 ?side2 ?side3 ?side4 A7.out).mono ?_); (case side1 => refine (Kd.R_reads' (e := 4) (base := w.heap.size) (ok := fun k_ => some k_ ≠ (.slice Ao14 t791.length co14 : Value).ownBlock) (n := t788.length) (c := co12) ?_).2.2; exact (by (with_reducible repeat (apply rN)); exact (Kd.R_mono (Kd.R_far (p := ⟨gb795, 1, none⟩) (Kd.R_far (p := ⟨gb795, 0, none⟩) (Kd.R_types HO790.out BK795.out (by decide)) (fun _ hk => hk.2) (.slice Ao12 t788.length co12)) (fun _ hk => hk.2) (.slice Ao14 t791.length co14)) (fun _ h_ => h_.1)))); (case side2 => exact (Kd.R_reads' HO790.out).2.1); (case side3 => refine (Kd.R_reads' (e := 4) (base := w.heap.size) (ok := fun k_ => some k_ ≠ (.slice Ao12 t788.length co12 : Value).ownBlock) (n := t791.length) (c := co14) ?_).2.2; exact (by (with_reducible repeat (apply rN)); exact (Kd.R_mono (Kd.R_far (p := ⟨gb795, 1, none⟩) (Kd.R_far (p := ⟨gb795, 0, none⟩) (Kd.R_types HO793.out BK795.out (by decide)) (fun _ hk => hk.2) (.slice Ao12 t788.length co12)) (fun _ hk => hk.2) (.slice Ao14 t791.length co14)) (fun _ h_ => h_.1)))); (case side4 => exact (Kd.R_reads' HO793.out).2.1); rintro e w15 ⟨v798, rfl, ho0, hb⟩; have HO799 := aM (Kd.R_lower (Kd.R_new' (Kd.R_new' ho0 (Kd.R_lt (by (with_reducible repeat (apply rN)); exact (Kd.R_mono (Kd.R_far (p := ⟨gb795, 1, none⟩) (Kd.R_far (p := ⟨gb795, 0, none⟩) (Kd.R_types HO790.out BK795.out (by decide)) (fun _ hk => hk.2) (.slice Ao12 t788.length co12)) (fun _ hk => hk.2) (.slice Ao14 t791.length co14)) (fun _ h_ => h_.1))))) (Kd.R_lt (by (with_reducible repeat (apply rN)); exact (Kd.R_mono (Kd.R_far (p := ⟨gb795, 1, none⟩) (Kd.R_far (p := ⟨gb795, 0, none⟩) (Kd.R_types HO793.out BK795.out (by decide)) (fun _ hk => hk.2) (.slice Ao12 t788.length co12)) (fun _ hk => hk.2) (.slice Ao14 t791.length co14)) (fun _ h_ => h_.1))))) (below_size (by repeat (first | (with_reducible first | exact HB.out | apply bN | refine bS ?_ GE795.out))))); replace HO790 := aM (Kd.R_elder' (by (with_reducible repeat (apply rN)); exact (Kd.R_mono (Kd.R_far (p := ⟨gb795, 1, none⟩) (Kd.R_far (p := ⟨gb795, 0, none⟩) (Kd.R_types HO790.out BK795.out (by decide)) (fun _ hk => hk.2) (.slice Ao12 t788.length co12)) (fun _ hk => hk.2) (.slice Ao14 t791.length co14)) (fun _ h_ => h_.1))) (Kd.R_base ho0) hb); replace HO793 := aM (Kd.R_elder' (by (with_reducible repeat (apply rN)); exact (Kd.R_mono (Kd.R_far (p := ⟨gb795, 1, none⟩) (Kd.R_far (p := ⟨gb795, 0, none⟩) (Kd.R_types HO793.out BK795.out (by decide)) (fun _ hk => hk.2) (.slice Ao12 t788.length co12)) (fun _ hk => hk.2) (.slice Ao14 t791.length co14)) (fun _ h_ => h_.1))) (Kd.R_base ho0) hb); replace BK795 := aM (blk_below (g := gb795) (o := .cells #[.slice Ao12 t788.length co12, .slice Ao14 t791.length co14] 60 (0, 0)) (by (with_reducible repeat (refine kN ?_ _)); refine blk_put (cs := #[.slice Ao12 t788.length co12, .slice none 0 0]) ?_ 1 _ rfl; refine blk_put (cs := #[.slice none 0 0, .slice none 0 0]) ?_ 0 _ rfl; exact BK795.out) hb); replace HB := aM (below_step (by repeat (first | (with_reducible first | exact HB.out | apply bN | refine bS ?_ GE795.out))) hb); (try clear hb); (try clear ho0); obtain ⟨Ao16, co16, eo16⟩ := Kd.R_slice HO799.out; subst eo16; have p800 : 0 ≤ (a1 : Int) := of_decide_eq_true (by (with_reducible assumption)); have q800 : a1 < (t797.length : Int) := of_decide_eq_true (by (with_reducible assumption)); obtain ⟨ad800, e800, hx800_0⟩ := Kd.at_bool (Kd.R_reads' HO799.out).2.2 a1 p800 q800; cases e800; replace p800 := eq_true p800; replace q800 := eq_true q800))
     go_ret
     exact ⟨by first | rfl | (simp [*, errW_none, errW_some] <;> rfl), HB.out⟩
    ·rw [if_neg c9] at H
     exact absurd H (by simp)
   ·rw [if_neg c8] at H
    exact absurd H (by simp)
  ·replace c6 := Bool.eq_false_iff.mpr c6
   subst c6
   replace H : (some false) = some r := by rw [if_neg (show ¬ (false = true) by decide)] at H; exact H
   obtain rfl := Option.some.inj H
   go_enter Try.func27, Try.ntmps27
   go_wp2_with (first | ((with_reducible refine gate_callee (f := 64) rfl ?_); refine goesL_ (some 9) rfl rfl Try.func64 (by kernel_rfl) rfl #[.string a0] rfl (by (try simp only [List.map_toArray, List.map_cons, List.map_nil]); rfl) ?_; (with_reducible refine (impl_small.calls k a0 t788 t791 true _ A3.out).mono ?_); rintro e w17 ⟨v789, v792, rfl, ho0, ho1, hb⟩; refine ⟨_, rfl, ?_⟩; have HO790 := aM (Kd.R_lower ho0 (below_size HB.out)); have HO793 := aM (Kd.R_lower ho1 (below_size HB.out)); replace HB := aM (below_step HB.out hb); (try clear hb); (try clear ho0); (try clear ho1)) | ((with_reducible refine gate_dst (N := 5) rfl ?_); refine box_event ?hg (N := 5) ?hd (cs := #[.slice none 0 0, .slice none 0 0]) (t := 60) ?hr ?_; (case hd => rfl); (case hg => rfl); (case hr => first | (go_simp; done)); intro gb795 hg w18 hbox hb; replace HO790 := aM (Kd.R_below HO790.out hb); replace HO793 := aM (Kd.R_below HO793.out hb); have BK795 := aM hbox; have GW795 := aM ((by rw [hg]; exact (below_size HB.out) : w.heap.size ≤ gb795)); have GE795 := aM ((by rw [hg]; exact (below_size HB.out) : w.heap.size ≤ gb795)); replace HB := aM (below_step HB.out hb); clear hb hbox hg; obtain ⟨Ao19, co19, eo19⟩ := Kd.R_slice HO790.out; subst eo19; have hcz20_0 : w18.cell? ⟨gb795, 0, none⟩ = some (.slice none 0 0) := (blk_cell BK795.out 0).trans rfl; have hcz20_1 : w18.cell? ⟨gb795, 1, none⟩ = some (.slice none 0 0) := (blk_cell BK795.out 1).trans rfl; have hfz20_0 := blk_frozen BK795.out 0; have hfz20_1 := blk_frozen BK795.out 1; obtain ⟨Ao21, co21, eo21⟩ := Kd.R_slice HO793.out; subst eo21) | (go_at_call 55; (with_reducible refine (impl_in.calls a1 0 2000 false _ A5.out).mono ?_); rintro e w' ⟨rfl, ⟨nd, rfl⟩⟩))
   go_ret
   exact ⟨by first | rfl | (simp [*, errW_none, errW_some] <;> rfl), by repeat (first | (with_reducible first | exact HB.out | apply bN | refine bS ?_ GE795.out))⟩
 ·replace c4 := Bool.eq_false_iff.mpr c4
  subst c4
  replace H : (some false) = some r := by rw [if_neg (show ¬ (false = true) by decide)] at H; exact H
  obtain rfl := Option.some.inj H
  go_enter Try.func27, Try.ntmps27
  go_wp2_with (first | ((with_reducible refine gate_callee (f := 64) rfl ?_); refine goesL_ (some 9) rfl rfl Try.func64 (by kernel_rfl) rfl #[.string a0] rfl (by (try simp only [List.map_toArray, List.map_cons, List.map_nil]); rfl) ?_; (with_reducible refine (impl_small.calls k a0 t788 t791 false _ A3.out).mono ?_); rintro e w22 ⟨v789, v792, rfl, ho0, ho1, hb⟩; refine ⟨_, rfl, ?_⟩; have HO790 := aM (Kd.R_lower ho0 (below_size HB.out)); have HO793 := aM (Kd.R_lower ho1 (below_size HB.out)); replace HB := aM (below_step HB.out hb); (try clear hb); (try clear ho0); (try clear ho1)) | ((with_reducible refine gate_dst (N := 5) rfl ?_); refine box_event ?hg (N := 5) ?hd (cs := #[.slice none 0 0, .slice none 0 0]) (t := 60) ?hr ?_; (case hd => rfl); (case hg => rfl); (case hr => first | (go_simp; done)); intro gb795 hg w23 hbox hb; replace HO790 := aM (Kd.R_below HO790.out hb); replace HO793 := aM (Kd.R_below HO793.out hb); have BK795 := aM hbox; have GW795 := aM ((by rw [hg]; exact (below_size HB.out) : w.heap.size ≤ gb795)); have GE795 := aM ((by rw [hg]; exact (below_size HB.out) : w.heap.size ≤ gb795)); replace HB := aM (below_step HB.out hb); clear hb hbox hg; obtain ⟨Ao24, co24, eo24⟩ := Kd.R_slice HO790.out; subst eo24; have hcz25_0 : w23.cell? ⟨gb795, 0, none⟩ = some (.slice none 0 0) := (blk_cell BK795.out 0).trans rfl; have hcz25_1 : w23.cell? ⟨gb795, 1, none⟩ = some (.slice none 0 0) := (blk_cell BK795.out 1).trans rfl; have hfz25_0 := blk_frozen BK795.out 0; have hfz25_1 := blk_frozen BK795.out 1; obtain ⟨Ao26, co26, eo26⟩ := Kd.R_slice HO793.out; subst eo26))
  go_ret
  exact ⟨by first | rfl | (simp [*, errW_none, errW_some] <;> rfl), by repeat (first | (with_reducible first | exact HB.out | refine bS ?_ GE795.out))⟩


def laws_FnSolveOne.f (k : Nat) (l0 : List Int) : Option (Bool) := if (l0.length : Int) > 1048576 then (some true) else ((spec_DrawSolveOne.f k l0).bind fun bt801 => ((impl_SolveOne.f k bt801.1 bt801.2).bind fun t803 => ((spec_SolveOne.f k bt801.1 bt801.2).bind fun t804 => (if ((t803 == t804) = true) then ((impl_SolveLeast.f k bt801.1 bt801.2).bind fun bt805 => ((impl_SolveMost.f k bt801.1 bt801.2).bind fun bt807 => ((impl_SolveIs.f k bt801.1 bt801.2 bt801.1).bind fun t809 => (if t809 = true then (if t803 = true then (if bt805.2 = true then (if bt807.2 = true then (if bt805.1.toList = bt807.1.toList then ((impl_SetHas.f bt801.1 0).bind fun t810 => (if t810 = true then (some true) else (some t803))) else (some false)) else ((impl_SetHas.f bt801.1 0).bind fun t811 => (if t811 = true then (some true) else (some t803)))) else ((impl_SetHas.f bt801.1 0).bind fun t812 => (if t812 = true then (some true) else (some t803)))) else ((impl_SetHas.f bt801.1 0).bind fun t813 => (if t813 = true then (some true) else (some t803)))) else ((impl_StarHas.f k bt801.1 0).bind fun t814 => (if t814 = true then ((impl_StarHas.f k bt801.2 0).bind fun t815 => (if t803 = true then (if bt805.2 = true then (if bt807.2 = true then (if bt805.1.toList = bt807.1.toList then (if t815 = true then ((impl_SetHas.f bt801.1 0).bind fun t816 => (if t816 = true then (some true) else (some t803))) else (some true)) else (some false)) else (if t815 = true then ((impl_SetHas.f bt801.1 0).bind fun t817 => (if t817 = true then (some true) else (some t803))) else (some true))) else (if t815 = true then ((impl_SetHas.f bt801.1 0).bind fun t818 => (if t818 = true then (some true) else (some t803))) else (some true))) else (if t815 = true then ((impl_SetHas.f bt801.1 0).bind fun t819 => (if t819 = true then (some true) else (some t803))) else (some true)))) else (if t803 = true then (if bt805.2 = true then (if bt807.2 = true then (if bt805.1.toList = bt807.1.toList then (some true) else (some false)) else (some true)) else (some true)) else (some true)))))))) else (some false)))))
theorem laws_FnSolveOne.mono : ∀ a0 k, LeO (laws_FnSolveOne.f k a0) (laws_FnSolveOne.f (k + 1) a0) := by
 intro a0 k
 unfold laws_FnSolveOne.f
 repeat' first | (with_reducible exact impl_SolveIs.mono _ _ _ _) | (with_reducible exact impl_SolveLeast.mono _ _ _) | (with_reducible exact impl_SolveMost.mono _ _ _) | (with_reducible exact impl_SolveOne.mono _ _ _) | (with_reducible exact impl_StarHas.mono _ _ _) | (with_reducible exact spec_DrawSolveOne.mono _ _) | (with_reducible exact spec_SolveOne.mono _ _ _) | (with_reducible exact LeO.refl _) | (with_reducible refine LeO.ite ?_ ?_) | (with_reducible refine LeO.bind ?_ (fun _ => ?_))
set_option maxHeartbeats 8000000 in
set_option maxRecDepth 100000 in
theorem laws_FnSolveOne.calls (k : Nat) (A0 : Option Addr) (c0 : Nat) (l0 : List Int) (r : Bool) (w : World) (hr0 : Kd.C (Kd.int .u8) w A0 l0.length l0) (hc0 : l0.length ≤ c0) (h : laws_FnSolveOne.f k l0 = some r) :
  Calls Try.prog 6 #[.slice A0 l0.length c0] w fun e w' => e = .returned (.bool r) ∧ Below w.heap.size w w' := by
 have HR0 := aM hr0
 have HC0 := aM hc0
 clear hr0 hc0
 have HB := aM (Below.refl w.heap.size w)
 have H : (if (l0.length : Int) > 1048576 then (some true) else ((spec_DrawSolveOne.f k l0).bind fun bt801 => ((impl_SolveOne.f k bt801.1 bt801.2).bind fun t803 => ((spec_SolveOne.f k bt801.1 bt801.2).bind fun t804 => (if ((t803 == t804) = true) then ((impl_SolveLeast.f k bt801.1 bt801.2).bind fun bt805 => ((impl_SolveMost.f k bt801.1 bt801.2).bind fun bt807 => ((impl_SolveIs.f k bt801.1 bt801.2 bt801.1).bind fun t809 => (if t809 = true then (if t803 = true then (if bt805.2 = true then (if bt807.2 = true then (if bt805.1.toList = bt807.1.toList then ((impl_SetHas.f bt801.1 0).bind fun t810 => (if t810 = true then (some true) else (some t803))) else (some false)) else ((impl_SetHas.f bt801.1 0).bind fun t811 => (if t811 = true then (some true) else (some t803)))) else ((impl_SetHas.f bt801.1 0).bind fun t812 => (if t812 = true then (some true) else (some t803)))) else ((impl_SetHas.f bt801.1 0).bind fun t813 => (if t813 = true then (some true) else (some t803)))) else ((impl_StarHas.f k bt801.1 0).bind fun t814 => (if t814 = true then ((impl_StarHas.f k bt801.2 0).bind fun t815 => (if t803 = true then (if bt805.2 = true then (if bt807.2 = true then (if bt805.1.toList = bt807.1.toList then (if t815 = true then ((impl_SetHas.f bt801.1 0).bind fun t816 => (if t816 = true then (some true) else (some t803))) else (some true)) else (some false)) else (if t815 = true then ((impl_SetHas.f bt801.1 0).bind fun t817 => (if t817 = true then (some true) else (some t803))) else (some true))) else (if t815 = true then ((impl_SetHas.f bt801.1 0).bind fun t818 => (if t818 = true then (some true) else (some t803))) else (some true))) else (if t815 = true then ((impl_SetHas.f bt801.1 0).bind fun t819 => (if t819 = true then (some true) else (some t803))) else (some true)))) else (if t803 = true then (if bt805.2 = true then (if bt807.2 = true then (if bt805.1.toList = bt807.1.toList then (some true) else (some false)) else (some true)) else (some true)) else (some true)))))))) else (some false)))))) = some r := h
 clear h
 by_cases c2 : (l0.length : Int) > 1048576
 ·rw [if_pos c2] at H
  have c2b0 : decide (1048576 < (l0.length : Int)) = true := decide_eq_true c2
  have c2b1 : decide (1048576 < l0.length) = true := decide_eq_true (by omega)
  clear c2
  obtain rfl := Option.some.inj H
  go_enter Try.func6, Try.ntmps6
  go_wp2
  go_ret
  exact ⟨by first | rfl | (simp [*, errW_none, errW_some] <;> rfl), HB.out⟩
 ·rw [if_neg c2] at H
  have c2b0 : decide (1048576 < (l0.length : Int)) = false := decide_eq_false c2
  have c2b1 : decide (1048576 < l0.length) = false := decide_eq_false (by omega)
  clear c2
  replace H := Option.bind_eq_some_iff.mp H
  obtain ⟨⟨t801, t802⟩, A30, H⟩ := H
  replace H : ((impl_SolveOne.f k t801 t802).bind fun t803 => ((spec_SolveOne.f k t801 t802).bind fun t804 => (if ((t803 == t804) = true) then ((impl_SolveLeast.f k t801 t802).bind fun bt805 => ((impl_SolveMost.f k t801 t802).bind fun bt807 => ((impl_SolveIs.f k t801 t802 t801).bind fun t809 => (if t809 = true then (if t803 = true then (if bt805.2 = true then (if bt807.2 = true then (if bt805.1.toList = bt807.1.toList then ((impl_SetHas.f t801 0).bind fun t810 => (if t810 = true then (some true) else (some t803))) else (some false)) else ((impl_SetHas.f t801 0).bind fun t811 => (if t811 = true then (some true) else (some t803)))) else ((impl_SetHas.f t801 0).bind fun t812 => (if t812 = true then (some true) else (some t803)))) else ((impl_SetHas.f t801 0).bind fun t813 => (if t813 = true then (some true) else (some t803)))) else ((impl_StarHas.f k t801 0).bind fun t814 => (if t814 = true then ((impl_StarHas.f k t802 0).bind fun t815 => (if t803 = true then (if bt805.2 = true then (if bt807.2 = true then (if bt805.1.toList = bt807.1.toList then (if t815 = true then ((impl_SetHas.f t801 0).bind fun t816 => (if t816 = true then (some true) else (some t803))) else (some true)) else (some false)) else (if t815 = true then ((impl_SetHas.f t801 0).bind fun t817 => (if t817 = true then (some true) else (some t803))) else (some true))) else (if t815 = true then ((impl_SetHas.f t801 0).bind fun t818 => (if t818 = true then (some true) else (some t803))) else (some true))) else (if t815 = true then ((impl_SetHas.f t801 0).bind fun t819 => (if t819 = true then (some true) else (some t803))) else (some true)))) else (if t803 = true then (if bt805.2 = true then (if bt807.2 = true then (if bt805.1.toList = bt807.1.toList then (some true) else (some false)) else (some true)) else (some true)) else (some true)))))))) else (some false)))) = some r := H
  have A3 := aM A30
  clear A30
  replace H := Option.bind_eq_some_iff.mp H
  obtain ⟨t803, A40, H⟩ := H
  replace H : ((spec_SolveOne.f k t801 t802).bind fun t804 => (if ((t803 == t804) = true) then ((impl_SolveLeast.f k t801 t802).bind fun bt805 => ((impl_SolveMost.f k t801 t802).bind fun bt807 => ((impl_SolveIs.f k t801 t802 t801).bind fun t809 => (if t809 = true then (if t803 = true then (if bt805.2 = true then (if bt807.2 = true then (if bt805.1.toList = bt807.1.toList then ((impl_SetHas.f t801 0).bind fun t810 => (if t810 = true then (some true) else (some t803))) else (some false)) else ((impl_SetHas.f t801 0).bind fun t811 => (if t811 = true then (some true) else (some t803)))) else ((impl_SetHas.f t801 0).bind fun t812 => (if t812 = true then (some true) else (some t803)))) else ((impl_SetHas.f t801 0).bind fun t813 => (if t813 = true then (some true) else (some t803)))) else ((impl_StarHas.f k t801 0).bind fun t814 => (if t814 = true then ((impl_StarHas.f k t802 0).bind fun t815 => (if t803 = true then (if bt805.2 = true then (if bt807.2 = true then (if bt805.1.toList = bt807.1.toList then (if t815 = true then ((impl_SetHas.f t801 0).bind fun t816 => (if t816 = true then (some true) else (some t803))) else (some true)) else (some false)) else (if t815 = true then ((impl_SetHas.f t801 0).bind fun t817 => (if t817 = true then (some true) else (some t803))) else (some true))) else (if t815 = true then ((impl_SetHas.f t801 0).bind fun t818 => (if t818 = true then (some true) else (some t803))) else (some true))) else (if t815 = true then ((impl_SetHas.f t801 0).bind fun t819 => (if t819 = true then (some true) else (some t803))) else (some true)))) else (if t803 = true then (if bt805.2 = true then (if bt807.2 = true then (if bt805.1.toList = bt807.1.toList then (some true) else (some false)) else (some true)) else (some true)) else (some true)))))))) else (some false))) = some r := H
  have A4 := aM A40
  clear A40
  replace H := Option.bind_eq_some_iff.mp H
  obtain ⟨t804, A50, H⟩ := H
  replace H : (if ((t803 == t804) = true) then ((impl_SolveLeast.f k t801 t802).bind fun bt805 => ((impl_SolveMost.f k t801 t802).bind fun bt807 => ((impl_SolveIs.f k t801 t802 t801).bind fun t809 => (if t809 = true then (if t803 = true then (if bt805.2 = true then (if bt807.2 = true then (if bt805.1.toList = bt807.1.toList then ((impl_SetHas.f t801 0).bind fun t810 => (if t810 = true then (some true) else (some t803))) else (some false)) else ((impl_SetHas.f t801 0).bind fun t811 => (if t811 = true then (some true) else (some t803)))) else ((impl_SetHas.f t801 0).bind fun t812 => (if t812 = true then (some true) else (some t803)))) else ((impl_SetHas.f t801 0).bind fun t813 => (if t813 = true then (some true) else (some t803)))) else ((impl_StarHas.f k t801 0).bind fun t814 => (if t814 = true then ((impl_StarHas.f k t802 0).bind fun t815 => (if t803 = true then (if bt805.2 = true then (if bt807.2 = true then (if bt805.1.toList = bt807.1.toList then (if t815 = true then ((impl_SetHas.f t801 0).bind fun t816 => (if t816 = true then (some true) else (some t803))) else (some true)) else (some false)) else (if t815 = true then ((impl_SetHas.f t801 0).bind fun t817 => (if t817 = true then (some true) else (some t803))) else (some true))) else (if t815 = true then ((impl_SetHas.f t801 0).bind fun t818 => (if t818 = true then (some true) else (some t803))) else (some true))) else (if t815 = true then ((impl_SetHas.f t801 0).bind fun t819 => (if t819 = true then (some true) else (some t803))) else (some true)))) else (if t803 = true then (if bt805.2 = true then (if bt807.2 = true then (if bt805.1.toList = bt807.1.toList then (some true) else (some false)) else (some true)) else (some true)) else (some true)))))))) else (some false)) = some r := H
  have A5 := aM A50
  clear A50
  by_cases c6 : ((t803 == t804) = true)
  ·rw [if_pos c6] at H
   have c6b0 : (t803 == t804) = true := c6
   (try (have c6b1 : decide (t803 = t804) = true := by simpa using c6))
   (try (have c6b2 : (t803 == t804) = true := by simpa using c6))
   clear c6
   replace H := Option.bind_eq_some_iff.mp H
   obtain ⟨⟨t805, t806⟩, A70, H⟩ := H
   replace H : ((impl_SolveMost.f k t801 t802).bind fun bt807 => ((impl_SolveIs.f k t801 t802 t801).bind fun t809 => (if t809 = true then (if t803 = true then (if t806 = true then (if bt807.2 = true then (if t805.toList = bt807.1.toList then ((impl_SetHas.f t801 0).bind fun t810 => (if t810 = true then (some true) else (some t803))) else (some false)) else ((impl_SetHas.f t801 0).bind fun t811 => (if t811 = true then (some true) else (some t803)))) else ((impl_SetHas.f t801 0).bind fun t812 => (if t812 = true then (some true) else (some t803)))) else ((impl_SetHas.f t801 0).bind fun t813 => (if t813 = true then (some true) else (some t803)))) else ((impl_StarHas.f k t801 0).bind fun t814 => (if t814 = true then ((impl_StarHas.f k t802 0).bind fun t815 => (if t803 = true then (if t806 = true then (if bt807.2 = true then (if t805.toList = bt807.1.toList then (if t815 = true then ((impl_SetHas.f t801 0).bind fun t816 => (if t816 = true then (some true) else (some t803))) else (some true)) else (some false)) else (if t815 = true then ((impl_SetHas.f t801 0).bind fun t817 => (if t817 = true then (some true) else (some t803))) else (some true))) else (if t815 = true then ((impl_SetHas.f t801 0).bind fun t818 => (if t818 = true then (some true) else (some t803))) else (some true))) else (if t815 = true then ((impl_SetHas.f t801 0).bind fun t819 => (if t819 = true then (some true) else (some t803))) else (some true)))) else (if t803 = true then (if t806 = true then (if bt807.2 = true then (if t805.toList = bt807.1.toList then (some true) else (some false)) else (some true)) else (some true)) else (some true))))))) = some r := H
   have A7 := aM A70
   clear A70
   replace H := Option.bind_eq_some_iff.mp H
   obtain ⟨⟨t807, t808⟩, A80, H⟩ := H
   replace H : ((impl_SolveIs.f k t801 t802 t801).bind fun t809 => (if t809 = true then (if t803 = true then (if t806 = true then (if t808 = true then (if t805.toList = t807.toList then ((impl_SetHas.f t801 0).bind fun t810 => (if t810 = true then (some true) else (some t803))) else (some false)) else ((impl_SetHas.f t801 0).bind fun t811 => (if t811 = true then (some true) else (some t803)))) else ((impl_SetHas.f t801 0).bind fun t812 => (if t812 = true then (some true) else (some t803)))) else ((impl_SetHas.f t801 0).bind fun t813 => (if t813 = true then (some true) else (some t803)))) else ((impl_StarHas.f k t801 0).bind fun t814 => (if t814 = true then ((impl_StarHas.f k t802 0).bind fun t815 => (if t803 = true then (if t806 = true then (if t808 = true then (if t805.toList = t807.toList then (if t815 = true then ((impl_SetHas.f t801 0).bind fun t816 => (if t816 = true then (some true) else (some t803))) else (some true)) else (some false)) else (if t815 = true then ((impl_SetHas.f t801 0).bind fun t817 => (if t817 = true then (some true) else (some t803))) else (some true))) else (if t815 = true then ((impl_SetHas.f t801 0).bind fun t818 => (if t818 = true then (some true) else (some t803))) else (some true))) else (if t815 = true then ((impl_SetHas.f t801 0).bind fun t819 => (if t819 = true then (some true) else (some t803))) else (some true)))) else (if t803 = true then (if t806 = true then (if t808 = true then (if t805.toList = t807.toList then (some true) else (some false)) else (some true)) else (some true)) else (some true)))))) = some r := H
   have A8 := aM A80
   clear A80
   replace H := Option.bind_eq_some_iff.mp H
   obtain ⟨t809, A90, H⟩ := H
   replace H : (if t809 = true then (if t803 = true then (if t806 = true then (if t808 = true then (if t805.toList = t807.toList then ((impl_SetHas.f t801 0).bind fun t810 => (if t810 = true then (some true) else (some t803))) else (some false)) else ((impl_SetHas.f t801 0).bind fun t811 => (if t811 = true then (some true) else (some t803)))) else ((impl_SetHas.f t801 0).bind fun t812 => (if t812 = true then (some true) else (some t803)))) else ((impl_SetHas.f t801 0).bind fun t813 => (if t813 = true then (some true) else (some t803)))) else ((impl_StarHas.f k t801 0).bind fun t814 => (if t814 = true then ((impl_StarHas.f k t802 0).bind fun t815 => (if t803 = true then (if t806 = true then (if t808 = true then (if t805.toList = t807.toList then (if t815 = true then ((impl_SetHas.f t801 0).bind fun t816 => (if t816 = true then (some true) else (some t803))) else (some true)) else (some false)) else (if t815 = true then ((impl_SetHas.f t801 0).bind fun t817 => (if t817 = true then (some true) else (some t803))) else (some true))) else (if t815 = true then ((impl_SetHas.f t801 0).bind fun t818 => (if t818 = true then (some true) else (some t803))) else (some true))) else (if t815 = true then ((impl_SetHas.f t801 0).bind fun t819 => (if t819 = true then (some true) else (some t803))) else (some true)))) else (if t803 = true then (if t806 = true then (if t808 = true then (if t805.toList = t807.toList then (some true) else (some false)) else (some true)) else (some true)) else (some true))))) = some r := H
   have A9 := aM A90
   clear A90
   by_cases c10 : t809 = true
   ·subst c10
    replace H : (if t803 = true then (if t806 = true then (if t808 = true then (if t805.toList = t807.toList then ((impl_SetHas.f t801 0).bind fun t810 => (if t810 = true then (some true) else (some t803))) else (some false)) else ((impl_SetHas.f t801 0).bind fun t811 => (if t811 = true then (some true) else (some t803)))) else ((impl_SetHas.f t801 0).bind fun t812 => (if t812 = true then (some true) else (some t803)))) else ((impl_SetHas.f t801 0).bind fun t813 => (if t813 = true then (some true) else (some t803)))) = some r := by rw [if_pos rfl] at H; exact H
    by_cases c11 : t803 = true
    ·subst c11
     replace H : (if t806 = true then (if t808 = true then (if t805.toList = t807.toList then ((impl_SetHas.f t801 0).bind fun t810 => (if t810 = true then (some true) else (some true))) else (some false)) else ((impl_SetHas.f t801 0).bind fun t811 => (if t811 = true then (some true) else (some true)))) else ((impl_SetHas.f t801 0).bind fun t812 => (if t812 = true then (some true) else (some true)))) = some r := by rw [if_pos rfl] at H; exact H
     by_cases c12 : t806 = true
     ·subst c12
      replace H : (if t808 = true then (if t805.toList = t807.toList then ((impl_SetHas.f t801 0).bind fun t810 => (if t810 = true then (some true) else (some true))) else (some false)) else ((impl_SetHas.f t801 0).bind fun t811 => (if t811 = true then (some true) else (some true)))) = some r := by rw [if_pos rfl] at H; exact H
      by_cases c13 : t808 = true
      ·subst c13
       replace H : (if t805.toList = t807.toList then ((impl_SetHas.f t801 0).bind fun t810 => (if t810 = true then (some true) else (some true))) else (some false)) = some r := by rw [if_pos rfl] at H; exact H
       by_cases c14 : t805.toList = t807.toList
       ·rw [if_pos c14] at H
        have c14b0 : (t805.toList == t807.toList) = true := beq_iff_eq.mpr c14
        have c14b1 : (t805.toList != t807.toList) = false := bne_eq_false_iff_eq.mpr c14
        clear c14
        replace H := Option.bind_eq_some_iff.mp H
        obtain ⟨t810, A150, H⟩ := H
        replace H : (if t810 = true then (some true) else (some true)) = some r := H
        have A15 := aM A150
        clear A150
        by_cases c16 : t810 = true
        all_goals
         first
         |replace c16 := Bool.eq_false_iff.mpr c16
         |skip
         subst c16
         first
         |replace H : (some true) = some r := by rw [if_pos rfl] at H; exact H
         |replace H : (some true) = some r := by rw [if_neg (show ¬ (false = true) by decide)] at H; exact H
         obtain rfl := Option.some.inj H
         go_enter Try.func6, Try.ntmps6
         go_wp2_with (first | ((with_reducible refine gate_callee (f := 24) rfl ?_); refine goesL_ (some 18) rfl rfl Try.func24 (by kernel_rfl) rfl #[.slice A0 l0.length c0] rfl (by (try simp only [List.map_toArray, List.map_cons, List.map_nil]); rfl) ?_; (with_reducible refine (spec_DrawSolveOne.calls k _ _ l0 t801 t802 _ ?side1 ?side2 A3.out).mono ?_); (case side1 => repeat (exact HR0.out)); (case side2 => exact HC0.out); rintro e w17 ⟨rfl, hb⟩; refine ⟨_, rfl, ?_⟩; replace HB := aM (below_step HB.out hb); (try clear hb)) | ((with_reducible refine gate_callee (f := 25) rfl ?_); refine goesL_ (some 23) rfl rfl Try.func25 (by kernel_rfl) rfl #[.string t801, .string t802] rfl (by (try simp only [List.map_toArray, List.map_cons, List.map_nil]); rfl) ?_; (with_reducible refine (impl_SolveOne.calls k t801 t802 true _ A4.out).mono ?_); rintro e w18 ⟨rfl, hb⟩; refine ⟨_, rfl, ?_⟩; replace HB := aM (below_step HB.out hb); (try clear hb)) | ((with_reducible refine gate_callee (f := 26) rfl ?_); refine goesL_ (some 26) rfl rfl Try.func26 (by kernel_rfl) rfl #[.string t801, .string t802] rfl (by (try simp only [List.map_toArray, List.map_cons, List.map_nil]); rfl) ?_; (with_reducible refine (spec_SolveOne.calls k t801 t802 t804 _ A5.out).mono ?_); rintro e w19 ⟨rfl, hb⟩; refine ⟨_, rfl, ?_⟩; replace HB := aM (below_step HB.out hb); (try clear hb)) | ((with_reducible refine gate_callee (f := 16) rfl ?_); refine goesL_ (some 35) rfl rfl Try.func16 (by kernel_rfl) rfl #[.string t801, .string t802] rfl (by (try simp only [List.map_toArray, List.map_cons, List.map_nil]); rfl) ?_; (with_reducible refine (impl_SolveLeast.calls k t801 t802 t805 true _ A7.out).mono ?_); rintro e w20 ⟨rfl, hb⟩; refine ⟨_, rfl, ?_⟩; replace HB := aM (below_step HB.out hb); (try clear hb)) | ((with_reducible refine gate_callee (f := 22) rfl ?_); refine goesL_ (some 41) rfl rfl Try.func22 (by kernel_rfl) rfl #[.string t801, .string t802] rfl (by (try simp only [List.map_toArray, List.map_cons, List.map_nil]); rfl) ?_; (with_reducible refine (impl_SolveMost.calls k t801 t802 t807 true _ A8.out).mono ?_); rintro e w21 ⟨rfl, hb⟩; refine ⟨_, rfl, ?_⟩; replace HB := aM (below_step HB.out hb); (try clear hb)) | ((with_reducible refine gate_callee (f := 20) rfl ?_); refine goesL_ (some 47) rfl rfl Try.func20 (by kernel_rfl) rfl #[.string t801, .string t802, .string t801] rfl (by (try simp only [List.map_toArray, List.map_cons, List.map_nil]); rfl) ?_; (with_reducible refine (impl_SolveIs.calls k t801 t802 t801 true _ A9.out).mono ?_); rintro e w22 ⟨rfl, hb⟩; refine ⟨_, rfl, ?_⟩; replace HB := aM (below_step HB.out hb); (try clear hb)) | (go_at_call 17; (with_reducible refine (impl_SetHas.calls t801 0 _ _ A15.out).mono ?_); rintro e w23 ⟨rfl, hb⟩; replace HB := aM (below_step HB.out hb); (try clear hb)))
         go_ret
         exact ⟨by first | rfl | (simp [*, errW_none, errW_some] <;> rfl), HB.out⟩
       ·rw [if_neg c14] at H
        have c14b0 : (t805.toList == t807.toList) = false := beq_eq_false_iff_ne.mpr c14
        have c14b1 : (t805.toList != t807.toList) = true := bne_iff_ne.mpr c14
        obtain rfl := Option.some.inj H
        go_enter Try.func6, Try.ntmps6
        go_wp2_with (first | ((with_reducible refine gate_callee (f := 24) rfl ?_); refine goesL_ (some 18) rfl rfl Try.func24 (by kernel_rfl) rfl #[.slice A0 l0.length c0] rfl (by (try simp only [List.map_toArray, List.map_cons, List.map_nil]); rfl) ?_; (with_reducible refine (spec_DrawSolveOne.calls k _ _ l0 t801 t802 _ ?side1 ?side2 A3.out).mono ?_); (case side1 => repeat (exact HR0.out)); (case side2 => exact HC0.out); rintro e w31 ⟨rfl, hb⟩; refine ⟨_, rfl, ?_⟩; replace HB := aM (below_step HB.out hb); (try clear hb)) | ((with_reducible refine gate_callee (f := 25) rfl ?_); refine goesL_ (some 23) rfl rfl Try.func25 (by kernel_rfl) rfl #[.string t801, .string t802] rfl (by (try simp only [List.map_toArray, List.map_cons, List.map_nil]); rfl) ?_; (with_reducible refine (impl_SolveOne.calls k t801 t802 true _ A4.out).mono ?_); rintro e w32 ⟨rfl, hb⟩; refine ⟨_, rfl, ?_⟩; replace HB := aM (below_step HB.out hb); (try clear hb)) | ((with_reducible refine gate_callee (f := 26) rfl ?_); refine goesL_ (some 26) rfl rfl Try.func26 (by kernel_rfl) rfl #[.string t801, .string t802] rfl (by (try simp only [List.map_toArray, List.map_cons, List.map_nil]); rfl) ?_; (with_reducible refine (spec_SolveOne.calls k t801 t802 t804 _ A5.out).mono ?_); rintro e w33 ⟨rfl, hb⟩; refine ⟨_, rfl, ?_⟩; replace HB := aM (below_step HB.out hb); (try clear hb)) | ((with_reducible refine gate_callee (f := 16) rfl ?_); refine goesL_ (some 35) rfl rfl Try.func16 (by kernel_rfl) rfl #[.string t801, .string t802] rfl (by (try simp only [List.map_toArray, List.map_cons, List.map_nil]); rfl) ?_; (with_reducible refine (impl_SolveLeast.calls k t801 t802 t805 true _ A7.out).mono ?_); rintro e w34 ⟨rfl, hb⟩; refine ⟨_, rfl, ?_⟩; replace HB := aM (below_step HB.out hb); (try clear hb)) | ((with_reducible refine gate_callee (f := 22) rfl ?_); refine goesL_ (some 41) rfl rfl Try.func22 (by kernel_rfl) rfl #[.string t801, .string t802] rfl (by (try simp only [List.map_toArray, List.map_cons, List.map_nil]); rfl) ?_; (with_reducible refine (impl_SolveMost.calls k t801 t802 t807 true _ A8.out).mono ?_); rintro e w35 ⟨rfl, hb⟩; refine ⟨_, rfl, ?_⟩; replace HB := aM (below_step HB.out hb); (try clear hb)) | ((with_reducible refine gate_callee (f := 20) rfl ?_); refine goesL_ (some 47) rfl rfl Try.func20 (by kernel_rfl) rfl #[.string t801, .string t802, .string t801] rfl (by (try simp only [List.map_toArray, List.map_cons, List.map_nil]); rfl) ?_; (with_reducible refine (impl_SolveIs.calls k t801 t802 t801 true _ A9.out).mono ?_); rintro e w36 ⟨rfl, hb⟩; refine ⟨_, rfl, ?_⟩; replace HB := aM (below_step HB.out hb); (try clear hb)))
        go_ret
        exact ⟨by first | rfl | (simp [*, errW_none, errW_some] <;> rfl), HB.out⟩
      ·replace c13 := Bool.eq_false_iff.mpr c13
       subst c13
       replace H : ((impl_SetHas.f t801 0).bind fun t811 => (if t811 = true then (some true) else (some true))) = some r := by rw [if_neg (show ¬ (false = true) by decide)] at H; exact H
       replace H := Option.bind_eq_some_iff.mp H
       obtain ⟨t811, A370, H⟩ := H
       replace H : (if t811 = true then (some true) else (some true)) = some r := H
       have A37 := aM A370
       clear A370
       by_cases c38 : t811 = true
       all_goals
        first
        |replace c38 := Bool.eq_false_iff.mpr c38
        |skip
        subst c38
        first
        |replace H : (some true) = some r := by rw [if_pos rfl] at H; exact H
        |replace H : (some true) = some r := by rw [if_neg (show ¬ (false = true) by decide)] at H; exact H
        obtain rfl := Option.some.inj H
        go_enter Try.func6, Try.ntmps6
        go_wp2_with (first | ((with_reducible refine gate_callee (f := 24) rfl ?_); refine goesL_ (some 18) rfl rfl Try.func24 (by kernel_rfl) rfl #[.slice A0 l0.length c0] rfl (by (try simp only [List.map_toArray, List.map_cons, List.map_nil]); rfl) ?_; (with_reducible refine (spec_DrawSolveOne.calls k _ _ l0 t801 t802 _ ?side1 ?side2 A3.out).mono ?_); (case side1 => repeat (exact HR0.out)); (case side2 => exact HC0.out); rintro e w39 ⟨rfl, hb⟩; refine ⟨_, rfl, ?_⟩; replace HB := aM (below_step HB.out hb); (try clear hb)) | ((with_reducible refine gate_callee (f := 25) rfl ?_); refine goesL_ (some 23) rfl rfl Try.func25 (by kernel_rfl) rfl #[.string t801, .string t802] rfl (by (try simp only [List.map_toArray, List.map_cons, List.map_nil]); rfl) ?_; (with_reducible refine (impl_SolveOne.calls k t801 t802 true _ A4.out).mono ?_); rintro e w40 ⟨rfl, hb⟩; refine ⟨_, rfl, ?_⟩; replace HB := aM (below_step HB.out hb); (try clear hb)) | ((with_reducible refine gate_callee (f := 26) rfl ?_); refine goesL_ (some 26) rfl rfl Try.func26 (by kernel_rfl) rfl #[.string t801, .string t802] rfl (by (try simp only [List.map_toArray, List.map_cons, List.map_nil]); rfl) ?_; (with_reducible refine (spec_SolveOne.calls k t801 t802 t804 _ A5.out).mono ?_); rintro e w41 ⟨rfl, hb⟩; refine ⟨_, rfl, ?_⟩; replace HB := aM (below_step HB.out hb); (try clear hb)) | ((with_reducible refine gate_callee (f := 16) rfl ?_); refine goesL_ (some 35) rfl rfl Try.func16 (by kernel_rfl) rfl #[.string t801, .string t802] rfl (by (try simp only [List.map_toArray, List.map_cons, List.map_nil]); rfl) ?_; (with_reducible refine (impl_SolveLeast.calls k t801 t802 t805 true _ A7.out).mono ?_); rintro e w42 ⟨rfl, hb⟩; refine ⟨_, rfl, ?_⟩; replace HB := aM (below_step HB.out hb); (try clear hb)) | ((with_reducible refine gate_callee (f := 22) rfl ?_); refine goesL_ (some 41) rfl rfl Try.func22 (by kernel_rfl) rfl #[.string t801, .string t802] rfl (by (try simp only [List.map_toArray, List.map_cons, List.map_nil]); rfl) ?_; (with_reducible refine (impl_SolveMost.calls k t801 t802 t807 false _ A8.out).mono ?_); rintro e w43 ⟨rfl, hb⟩; refine ⟨_, rfl, ?_⟩; replace HB := aM (below_step HB.out hb); (try clear hb)) | ((with_reducible refine gate_callee (f := 20) rfl ?_); refine goesL_ (some 47) rfl rfl Try.func20 (by kernel_rfl) rfl #[.string t801, .string t802, .string t801] rfl (by (try simp only [List.map_toArray, List.map_cons, List.map_nil]); rfl) ?_; (with_reducible refine (impl_SolveIs.calls k t801 t802 t801 true _ A9.out).mono ?_); rintro e w44 ⟨rfl, hb⟩; refine ⟨_, rfl, ?_⟩; replace HB := aM (below_step HB.out hb); (try clear hb)) | (go_at_call 17; (with_reducible refine (impl_SetHas.calls t801 0 _ _ A37.out).mono ?_); rintro e w45 ⟨rfl, hb⟩; replace HB := aM (below_step HB.out hb); (try clear hb)))
        go_ret
        exact ⟨by first | rfl | (simp [*, errW_none, errW_some] <;> rfl), HB.out⟩
     ·replace c12 := Bool.eq_false_iff.mpr c12
      subst c12
      replace H : ((impl_SetHas.f t801 0).bind fun t812 => (if t812 = true then (some true) else (some true))) = some r := by rw [if_neg (show ¬ (false = true) by decide)] at H; exact H
      replace H := Option.bind_eq_some_iff.mp H
      obtain ⟨t812, A530, H⟩ := H
      replace H : (if t812 = true then (some true) else (some true)) = some r := H
      have A53 := aM A530
      clear A530
      by_cases c54 : t812 = true
      all_goals
       first
       |replace c54 := Bool.eq_false_iff.mpr c54
       |skip
       subst c54
       first
       |replace H : (some true) = some r := by rw [if_pos rfl] at H; exact H
       |replace H : (some true) = some r := by rw [if_neg (show ¬ (false = true) by decide)] at H; exact H
       obtain rfl := Option.some.inj H
       go_enter Try.func6, Try.ntmps6
       go_wp2_with (first | ((with_reducible refine gate_callee (f := 24) rfl ?_); refine goesL_ (some 18) rfl rfl Try.func24 (by kernel_rfl) rfl #[.slice A0 l0.length c0] rfl (by (try simp only [List.map_toArray, List.map_cons, List.map_nil]); rfl) ?_; (with_reducible refine (spec_DrawSolveOne.calls k _ _ l0 t801 t802 _ ?side1 ?side2 A3.out).mono ?_); (case side1 => repeat (exact HR0.out)); (case side2 => exact HC0.out); rintro e w55 ⟨rfl, hb⟩; refine ⟨_, rfl, ?_⟩; replace HB := aM (below_step HB.out hb); (try clear hb)) | ((with_reducible refine gate_callee (f := 25) rfl ?_); refine goesL_ (some 23) rfl rfl Try.func25 (by kernel_rfl) rfl #[.string t801, .string t802] rfl (by (try simp only [List.map_toArray, List.map_cons, List.map_nil]); rfl) ?_; (with_reducible refine (impl_SolveOne.calls k t801 t802 true _ A4.out).mono ?_); rintro e w56 ⟨rfl, hb⟩; refine ⟨_, rfl, ?_⟩; replace HB := aM (below_step HB.out hb); (try clear hb)) | ((with_reducible refine gate_callee (f := 26) rfl ?_); refine goesL_ (some 26) rfl rfl Try.func26 (by kernel_rfl) rfl #[.string t801, .string t802] rfl (by (try simp only [List.map_toArray, List.map_cons, List.map_nil]); rfl) ?_; (with_reducible refine (spec_SolveOne.calls k t801 t802 t804 _ A5.out).mono ?_); rintro e w57 ⟨rfl, hb⟩; refine ⟨_, rfl, ?_⟩; replace HB := aM (below_step HB.out hb); (try clear hb)) | ((with_reducible refine gate_callee (f := 16) rfl ?_); refine goesL_ (some 35) rfl rfl Try.func16 (by kernel_rfl) rfl #[.string t801, .string t802] rfl (by (try simp only [List.map_toArray, List.map_cons, List.map_nil]); rfl) ?_; (with_reducible refine (impl_SolveLeast.calls k t801 t802 t805 false _ A7.out).mono ?_); rintro e w58 ⟨rfl, hb⟩; refine ⟨_, rfl, ?_⟩; replace HB := aM (below_step HB.out hb); (try clear hb)) | ((with_reducible refine gate_callee (f := 22) rfl ?_); refine goesL_ (some 41) rfl rfl Try.func22 (by kernel_rfl) rfl #[.string t801, .string t802] rfl (by (try simp only [List.map_toArray, List.map_cons, List.map_nil]); rfl) ?_; (with_reducible refine (impl_SolveMost.calls k t801 t802 t807 t808 _ A8.out).mono ?_); rintro e w59 ⟨rfl, hb⟩; refine ⟨_, rfl, ?_⟩; replace HB := aM (below_step HB.out hb); (try clear hb)) | ((with_reducible refine gate_callee (f := 20) rfl ?_); refine goesL_ (some 47) rfl rfl Try.func20 (by kernel_rfl) rfl #[.string t801, .string t802, .string t801] rfl (by (try simp only [List.map_toArray, List.map_cons, List.map_nil]); rfl) ?_; (with_reducible refine (impl_SolveIs.calls k t801 t802 t801 true _ A9.out).mono ?_); rintro e w60 ⟨rfl, hb⟩; refine ⟨_, rfl, ?_⟩; replace HB := aM (below_step HB.out hb); (try clear hb)) | (go_at_call 17; (with_reducible refine (impl_SetHas.calls t801 0 _ _ A53.out).mono ?_); rintro e w61 ⟨rfl, hb⟩; replace HB := aM (below_step HB.out hb); (try clear hb)))
       go_ret
       exact ⟨by first | rfl | (simp [*, errW_none, errW_some] <;> rfl), HB.out⟩
    ·replace c11 := Bool.eq_false_iff.mpr c11
     subst c11
     replace H : ((impl_SetHas.f t801 0).bind fun t813 => (if t813 = true then (some true) else (some false))) = some r := by rw [if_neg (show ¬ (false = true) by decide)] at H; exact H
     replace H := Option.bind_eq_some_iff.mp H
     obtain ⟨t813, A690, H⟩ := H
     replace H : (if t813 = true then (some true) else (some false)) = some r := H
     have A69 := aM A690
     clear A690
     by_cases c70 : t813 = true
     all_goals
      first
      |replace c70 := Bool.eq_false_iff.mpr c70
      |skip
      subst c70
      first
      |replace H : (some true) = some r := by rw [if_pos rfl] at H; exact H
      |replace H : (some false) = some r := by rw [if_neg (show ¬ (false = true) by decide)] at H; exact H
      obtain rfl := Option.some.inj H
      go_enter Try.func6, Try.ntmps6
      go_wp2_with (first | ((with_reducible refine gate_callee (f := 24) rfl ?_); refine goesL_ (some 18) rfl rfl Try.func24 (by kernel_rfl) rfl #[.slice A0 l0.length c0] rfl (by (try simp only [List.map_toArray, List.map_cons, List.map_nil]); rfl) ?_; (with_reducible refine (spec_DrawSolveOne.calls k _ _ l0 t801 t802 _ ?side1 ?side2 A3.out).mono ?_); (case side1 => repeat (exact HR0.out)); (case side2 => exact HC0.out); rintro e w71 ⟨rfl, hb⟩; refine ⟨_, rfl, ?_⟩; replace HB := aM (below_step HB.out hb); (try clear hb)) | ((with_reducible refine gate_callee (f := 25) rfl ?_); refine goesL_ (some 23) rfl rfl Try.func25 (by kernel_rfl) rfl #[.string t801, .string t802] rfl (by (try simp only [List.map_toArray, List.map_cons, List.map_nil]); rfl) ?_; (with_reducible refine (impl_SolveOne.calls k t801 t802 false _ A4.out).mono ?_); rintro e w72 ⟨rfl, hb⟩; refine ⟨_, rfl, ?_⟩; replace HB := aM (below_step HB.out hb); (try clear hb)) | ((with_reducible refine gate_callee (f := 26) rfl ?_); refine goesL_ (some 26) rfl rfl Try.func26 (by kernel_rfl) rfl #[.string t801, .string t802] rfl (by (try simp only [List.map_toArray, List.map_cons, List.map_nil]); rfl) ?_; (with_reducible refine (spec_SolveOne.calls k t801 t802 t804 _ A5.out).mono ?_); rintro e w73 ⟨rfl, hb⟩; refine ⟨_, rfl, ?_⟩; replace HB := aM (below_step HB.out hb); (try clear hb)) | ((with_reducible refine gate_callee (f := 16) rfl ?_); refine goesL_ (some 35) rfl rfl Try.func16 (by kernel_rfl) rfl #[.string t801, .string t802] rfl (by (try simp only [List.map_toArray, List.map_cons, List.map_nil]); rfl) ?_; (with_reducible refine (impl_SolveLeast.calls k t801 t802 t805 t806 _ A7.out).mono ?_); rintro e w74 ⟨rfl, hb⟩; refine ⟨_, rfl, ?_⟩; replace HB := aM (below_step HB.out hb); (try clear hb)) | ((with_reducible refine gate_callee (f := 22) rfl ?_); refine goesL_ (some 41) rfl rfl Try.func22 (by kernel_rfl) rfl #[.string t801, .string t802] rfl (by (try simp only [List.map_toArray, List.map_cons, List.map_nil]); rfl) ?_; (with_reducible refine (impl_SolveMost.calls k t801 t802 t807 t808 _ A8.out).mono ?_); rintro e w75 ⟨rfl, hb⟩; refine ⟨_, rfl, ?_⟩; replace HB := aM (below_step HB.out hb); (try clear hb)) | ((with_reducible refine gate_callee (f := 20) rfl ?_); refine goesL_ (some 47) rfl rfl Try.func20 (by kernel_rfl) rfl #[.string t801, .string t802, .string t801] rfl (by (try simp only [List.map_toArray, List.map_cons, List.map_nil]); rfl) ?_; (with_reducible refine (impl_SolveIs.calls k t801 t802 t801 true _ A9.out).mono ?_); rintro e w76 ⟨rfl, hb⟩; refine ⟨_, rfl, ?_⟩; replace HB := aM (below_step HB.out hb); (try clear hb)) | (go_at_call 17; (with_reducible refine (impl_SetHas.calls t801 0 _ _ A69.out).mono ?_); rintro e w77 ⟨rfl, hb⟩; replace HB := aM (below_step HB.out hb); (try clear hb)))
      go_ret
      exact ⟨by first | rfl | (simp [*, errW_none, errW_some] <;> rfl), HB.out⟩
   ·replace c10 := Bool.eq_false_iff.mpr c10
    subst c10
    replace H : ((impl_StarHas.f k t801 0).bind fun t814 => (if t814 = true then ((impl_StarHas.f k t802 0).bind fun t815 => (if t803 = true then (if t806 = true then (if t808 = true then (if t805.toList = t807.toList then (if t815 = true then ((impl_SetHas.f t801 0).bind fun t816 => (if t816 = true then (some true) else (some t803))) else (some true)) else (some false)) else (if t815 = true then ((impl_SetHas.f t801 0).bind fun t817 => (if t817 = true then (some true) else (some t803))) else (some true))) else (if t815 = true then ((impl_SetHas.f t801 0).bind fun t818 => (if t818 = true then (some true) else (some t803))) else (some true))) else (if t815 = true then ((impl_SetHas.f t801 0).bind fun t819 => (if t819 = true then (some true) else (some t803))) else (some true)))) else (if t803 = true then (if t806 = true then (if t808 = true then (if t805.toList = t807.toList then (some true) else (some false)) else (some true)) else (some true)) else (some true)))) = some r := by rw [if_neg (show ¬ (false = true) by decide)] at H; exact H
    replace H := Option.bind_eq_some_iff.mp H
    obtain ⟨t814, A850, H⟩ := H
    replace H : (if t814 = true then ((impl_StarHas.f k t802 0).bind fun t815 => (if t803 = true then (if t806 = true then (if t808 = true then (if t805.toList = t807.toList then (if t815 = true then ((impl_SetHas.f t801 0).bind fun t816 => (if t816 = true then (some true) else (some t803))) else (some true)) else (some false)) else (if t815 = true then ((impl_SetHas.f t801 0).bind fun t817 => (if t817 = true then (some true) else (some t803))) else (some true))) else (if t815 = true then ((impl_SetHas.f t801 0).bind fun t818 => (if t818 = true then (some true) else (some t803))) else (some true))) else (if t815 = true then ((impl_SetHas.f t801 0).bind fun t819 => (if t819 = true then (some true) else (some t803))) else (some true)))) else (if t803 = true then (if t806 = true then (if t808 = true then (if t805.toList = t807.toList then (some true) else (some false)) else (some true)) else (some true)) else (some true))) = some r := H
    have A85 := aM A850
    clear A850
    by_cases c86 : t814 = true
    ·subst c86
     replace H : ((impl_StarHas.f k t802 0).bind fun t815 => (if t803 = true then (if t806 = true then (if t808 = true then (if t805.toList = t807.toList then (if t815 = true then ((impl_SetHas.f t801 0).bind fun t816 => (if t816 = true then (some true) else (some t803))) else (some true)) else (some false)) else (if t815 = true then ((impl_SetHas.f t801 0).bind fun t817 => (if t817 = true then (some true) else (some t803))) else (some true))) else (if t815 = true then ((impl_SetHas.f t801 0).bind fun t818 => (if t818 = true then (some true) else (some t803))) else (some true))) else (if t815 = true then ((impl_SetHas.f t801 0).bind fun t819 => (if t819 = true then (some true) else (some t803))) else (some true)))) = some r := by rw [if_pos rfl] at H; exact H
     replace H := Option.bind_eq_some_iff.mp H
     obtain ⟨t815, A870, H⟩ := H
     replace H : (if t803 = true then (if t806 = true then (if t808 = true then (if t805.toList = t807.toList then (if t815 = true then ((impl_SetHas.f t801 0).bind fun t816 => (if t816 = true then (some true) else (some t803))) else (some true)) else (some false)) else (if t815 = true then ((impl_SetHas.f t801 0).bind fun t817 => (if t817 = true then (some true) else (some t803))) else (some true))) else (if t815 = true then ((impl_SetHas.f t801 0).bind fun t818 => (if t818 = true then (some true) else (some t803))) else (some true))) else (if t815 = true then ((impl_SetHas.f t801 0).bind fun t819 => (if t819 = true then (some true) else (some t803))) else (some true))) = some r := H
     have A87 := aM A870
     clear A870
     by_cases c88 : t803 = true
     ·subst c88
      replace H : (if t806 = true then (if t808 = true then (if t805.toList = t807.toList then (if t815 = true then ((impl_SetHas.f t801 0).bind fun t816 => (if t816 = true then (some true) else (some true))) else (some true)) else (some false)) else (if t815 = true then ((impl_SetHas.f t801 0).bind fun t817 => (if t817 = true then (some true) else (some true))) else (some true))) else (if t815 = true then ((impl_SetHas.f t801 0).bind fun t818 => (if t818 = true then (some true) else (some true))) else (some true))) = some r := by rw [if_pos rfl] at H; exact H
      by_cases c89 : t806 = true
      ·subst c89
       replace H : (if t808 = true then (if t805.toList = t807.toList then (if t815 = true then ((impl_SetHas.f t801 0).bind fun t816 => (if t816 = true then (some true) else (some true))) else (some true)) else (some false)) else (if t815 = true then ((impl_SetHas.f t801 0).bind fun t817 => (if t817 = true then (some true) else (some true))) else (some true))) = some r := by rw [if_pos rfl] at H; exact H
       by_cases c90 : t808 = true
       ·subst c90
        replace H : (if t805.toList = t807.toList then (if t815 = true then ((impl_SetHas.f t801 0).bind fun t816 => (if t816 = true then (some true) else (some true))) else (some true)) else (some false)) = some r := by rw [if_pos rfl] at H; exact H
        by_cases c91 : t805.toList = t807.toList
        ·rw [if_pos c91] at H
         have c91b0 : (t805.toList == t807.toList) = true := beq_iff_eq.mpr c91
         have c91b1 : (t805.toList != t807.toList) = false := bne_eq_false_iff_eq.mpr c91
         clear c91
         by_cases c92 : t815 = true
         ·subst c92
          replace H : ((impl_SetHas.f t801 0).bind fun t816 => (if t816 = true then (some true) else (some true))) = some r := by rw [if_pos rfl] at H; exact H
          replace H := Option.bind_eq_some_iff.mp H
          obtain ⟨t816, A930, H⟩ := H
          replace H : (if t816 = true then (some true) else (some true)) = some r := H
          have A93 := aM A930
          clear A930
          by_cases c94 : t816 = true
          all_goals
           first
           |replace c94 := Bool.eq_false_iff.mpr c94
           |skip
           subst c94
           first
           |replace H : (some true) = some r := by rw [if_pos rfl] at H; exact H
           |replace H : (some true) = some r := by rw [if_neg (show ¬ (false = true) by decide)] at H; exact H
           obtain rfl := Option.some.inj H
           go_enter Try.func6, Try.ntmps6
           go_wp2_with (first | ((with_reducible refine gate_callee (f := 24) rfl ?_); refine goesL_ (some 18) rfl rfl Try.func24 (by kernel_rfl) rfl #[.slice A0 l0.length c0] rfl (by (try simp only [List.map_toArray, List.map_cons, List.map_nil]); rfl) ?_; (with_reducible refine (spec_DrawSolveOne.calls k _ _ l0 t801 t802 _ ?side1 ?side2 A3.out).mono ?_); (case side1 => repeat (exact HR0.out)); (case side2 => exact HC0.out); rintro e w95 ⟨rfl, hb⟩; refine ⟨_, rfl, ?_⟩; replace HB := aM (below_step HB.out hb); (try clear hb)) | ((with_reducible refine gate_callee (f := 25) rfl ?_); refine goesL_ (some 23) rfl rfl Try.func25 (by kernel_rfl) rfl #[.string t801, .string t802] rfl (by (try simp only [List.map_toArray, List.map_cons, List.map_nil]); rfl) ?_; (with_reducible refine (impl_SolveOne.calls k t801 t802 true _ A4.out).mono ?_); rintro e w96 ⟨rfl, hb⟩; refine ⟨_, rfl, ?_⟩; replace HB := aM (below_step HB.out hb); (try clear hb)) | ((with_reducible refine gate_callee (f := 26) rfl ?_); refine goesL_ (some 26) rfl rfl Try.func26 (by kernel_rfl) rfl #[.string t801, .string t802] rfl (by (try simp only [List.map_toArray, List.map_cons, List.map_nil]); rfl) ?_; (with_reducible refine (spec_SolveOne.calls k t801 t802 t804 _ A5.out).mono ?_); rintro e w97 ⟨rfl, hb⟩; refine ⟨_, rfl, ?_⟩; replace HB := aM (below_step HB.out hb); (try clear hb)) | ((with_reducible refine gate_callee (f := 16) rfl ?_); refine goesL_ (some 35) rfl rfl Try.func16 (by kernel_rfl) rfl #[.string t801, .string t802] rfl (by (try simp only [List.map_toArray, List.map_cons, List.map_nil]); rfl) ?_; (with_reducible refine (impl_SolveLeast.calls k t801 t802 t805 true _ A7.out).mono ?_); rintro e w98 ⟨rfl, hb⟩; refine ⟨_, rfl, ?_⟩; replace HB := aM (below_step HB.out hb); (try clear hb)) | ((with_reducible refine gate_callee (f := 22) rfl ?_); refine goesL_ (some 41) rfl rfl Try.func22 (by kernel_rfl) rfl #[.string t801, .string t802] rfl (by (try simp only [List.map_toArray, List.map_cons, List.map_nil]); rfl) ?_; (with_reducible refine (impl_SolveMost.calls k t801 t802 t807 true _ A8.out).mono ?_); rintro e w99 ⟨rfl, hb⟩; refine ⟨_, rfl, ?_⟩; replace HB := aM (below_step HB.out hb); (try clear hb)) | ((with_reducible refine gate_callee (f := 20) rfl ?_); refine goesL_ (some 47) rfl rfl Try.func20 (by kernel_rfl) rfl #[.string t801, .string t802, .string t801] rfl (by (try simp only [List.map_toArray, List.map_cons, List.map_nil]); rfl) ?_; (with_reducible refine (impl_SolveIs.calls k t801 t802 t801 false _ A9.out).mono ?_); rintro e w100 ⟨rfl, hb⟩; refine ⟨_, rfl, ?_⟩; replace HB := aM (below_step HB.out hb); (try clear hb)) | (go_at_call 27; (with_reducible refine (impl_StarHas.calls k t801 0 true _ A85.out).mono ?_); rintro e w101 ⟨rfl, hb⟩; replace HB := aM (below_step HB.out hb); (try clear hb)) | (go_at_call 27; (with_reducible refine (impl_StarHas.calls k t802 0 true _ A87.out).mono ?_); rintro e w102 ⟨rfl, hb⟩; replace HB := aM (below_step HB.out hb); (try clear hb)) | (go_at_call 17; (with_reducible refine (impl_SetHas.calls t801 0 _ _ A93.out).mono ?_); rintro e w103 ⟨rfl, hb⟩; replace HB := aM (below_step HB.out hb); (try clear hb)))
           go_ret
           exact ⟨by first | rfl | (simp [*, errW_none, errW_some] <;> rfl), HB.out⟩
         ·replace c92 := Bool.eq_false_iff.mpr c92
          subst c92
          replace H : (some true) = some r := by rw [if_neg (show ¬ (false = true) by decide)] at H; exact H
          obtain rfl := Option.some.inj H
          go_enter Try.func6, Try.ntmps6
          go_wp2_with (first | ((with_reducible refine gate_callee (f := 24) rfl ?_); refine goesL_ (some 18) rfl rfl Try.func24 (by kernel_rfl) rfl #[.slice A0 l0.length c0] rfl (by (try simp only [List.map_toArray, List.map_cons, List.map_nil]); rfl) ?_; (with_reducible refine (spec_DrawSolveOne.calls k _ _ l0 t801 t802 _ ?side1 ?side2 A3.out).mono ?_); (case side1 => repeat (exact HR0.out)); (case side2 => exact HC0.out); rintro e w113 ⟨rfl, hb⟩; refine ⟨_, rfl, ?_⟩; replace HB := aM (below_step HB.out hb); (try clear hb)) | ((with_reducible refine gate_callee (f := 25) rfl ?_); refine goesL_ (some 23) rfl rfl Try.func25 (by kernel_rfl) rfl #[.string t801, .string t802] rfl (by (try simp only [List.map_toArray, List.map_cons, List.map_nil]); rfl) ?_; (with_reducible refine (impl_SolveOne.calls k t801 t802 true _ A4.out).mono ?_); rintro e w114 ⟨rfl, hb⟩; refine ⟨_, rfl, ?_⟩; replace HB := aM (below_step HB.out hb); (try clear hb)) | ((with_reducible refine gate_callee (f := 26) rfl ?_); refine goesL_ (some 26) rfl rfl Try.func26 (by kernel_rfl) rfl #[.string t801, .string t802] rfl (by (try simp only [List.map_toArray, List.map_cons, List.map_nil]); rfl) ?_; (with_reducible refine (spec_SolveOne.calls k t801 t802 t804 _ A5.out).mono ?_); rintro e w115 ⟨rfl, hb⟩; refine ⟨_, rfl, ?_⟩; replace HB := aM (below_step HB.out hb); (try clear hb)) | ((with_reducible refine gate_callee (f := 16) rfl ?_); refine goesL_ (some 35) rfl rfl Try.func16 (by kernel_rfl) rfl #[.string t801, .string t802] rfl (by (try simp only [List.map_toArray, List.map_cons, List.map_nil]); rfl) ?_; (with_reducible refine (impl_SolveLeast.calls k t801 t802 t805 true _ A7.out).mono ?_); rintro e w116 ⟨rfl, hb⟩; refine ⟨_, rfl, ?_⟩; replace HB := aM (below_step HB.out hb); (try clear hb)) | ((with_reducible refine gate_callee (f := 22) rfl ?_); refine goesL_ (some 41) rfl rfl Try.func22 (by kernel_rfl) rfl #[.string t801, .string t802] rfl (by (try simp only [List.map_toArray, List.map_cons, List.map_nil]); rfl) ?_; (with_reducible refine (impl_SolveMost.calls k t801 t802 t807 true _ A8.out).mono ?_); rintro e w117 ⟨rfl, hb⟩; refine ⟨_, rfl, ?_⟩; replace HB := aM (below_step HB.out hb); (try clear hb)) | ((with_reducible refine gate_callee (f := 20) rfl ?_); refine goesL_ (some 47) rfl rfl Try.func20 (by kernel_rfl) rfl #[.string t801, .string t802, .string t801] rfl (by (try simp only [List.map_toArray, List.map_cons, List.map_nil]); rfl) ?_; (with_reducible refine (impl_SolveIs.calls k t801 t802 t801 false _ A9.out).mono ?_); rintro e w118 ⟨rfl, hb⟩; refine ⟨_, rfl, ?_⟩; replace HB := aM (below_step HB.out hb); (try clear hb)) | (go_at_call 27; (with_reducible refine (impl_StarHas.calls k t801 0 true _ A85.out).mono ?_); rintro e w119 ⟨rfl, hb⟩; replace HB := aM (below_step HB.out hb); (try clear hb)) | (go_at_call 27; (with_reducible refine (impl_StarHas.calls k t802 0 false _ A87.out).mono ?_); rintro e w120 ⟨rfl, hb⟩; replace HB := aM (below_step HB.out hb); (try clear hb)))
          go_ret
          exact ⟨by first | rfl | (simp [*, errW_none, errW_some] <;> rfl), HB.out⟩
        ·rw [if_neg c91] at H
         have c91b0 : (t805.toList == t807.toList) = false := beq_eq_false_iff_ne.mpr c91
         have c91b1 : (t805.toList != t807.toList) = true := bne_iff_ne.mpr c91
         obtain rfl := Option.some.inj H
         go_enter Try.func6, Try.ntmps6
         go_wp2_with (first | ((with_reducible refine gate_callee (f := 24) rfl ?_); refine goesL_ (some 18) rfl rfl Try.func24 (by kernel_rfl) rfl #[.slice A0 l0.length c0] rfl (by (try simp only [List.map_toArray, List.map_cons, List.map_nil]); rfl) ?_; (with_reducible refine (spec_DrawSolveOne.calls k _ _ l0 t801 t802 _ ?side1 ?side2 A3.out).mono ?_); (case side1 => repeat (exact HR0.out)); (case side2 => exact HC0.out); rintro e w121 ⟨rfl, hb⟩; refine ⟨_, rfl, ?_⟩; replace HB := aM (below_step HB.out hb); (try clear hb)) | ((with_reducible refine gate_callee (f := 25) rfl ?_); refine goesL_ (some 23) rfl rfl Try.func25 (by kernel_rfl) rfl #[.string t801, .string t802] rfl (by (try simp only [List.map_toArray, List.map_cons, List.map_nil]); rfl) ?_; (with_reducible refine (impl_SolveOne.calls k t801 t802 true _ A4.out).mono ?_); rintro e w122 ⟨rfl, hb⟩; refine ⟨_, rfl, ?_⟩; replace HB := aM (below_step HB.out hb); (try clear hb)) | ((with_reducible refine gate_callee (f := 26) rfl ?_); refine goesL_ (some 26) rfl rfl Try.func26 (by kernel_rfl) rfl #[.string t801, .string t802] rfl (by (try simp only [List.map_toArray, List.map_cons, List.map_nil]); rfl) ?_; (with_reducible refine (spec_SolveOne.calls k t801 t802 t804 _ A5.out).mono ?_); rintro e w123 ⟨rfl, hb⟩; refine ⟨_, rfl, ?_⟩; replace HB := aM (below_step HB.out hb); (try clear hb)) | ((with_reducible refine gate_callee (f := 16) rfl ?_); refine goesL_ (some 35) rfl rfl Try.func16 (by kernel_rfl) rfl #[.string t801, .string t802] rfl (by (try simp only [List.map_toArray, List.map_cons, List.map_nil]); rfl) ?_; (with_reducible refine (impl_SolveLeast.calls k t801 t802 t805 true _ A7.out).mono ?_); rintro e w124 ⟨rfl, hb⟩; refine ⟨_, rfl, ?_⟩; replace HB := aM (below_step HB.out hb); (try clear hb)) | ((with_reducible refine gate_callee (f := 22) rfl ?_); refine goesL_ (some 41) rfl rfl Try.func22 (by kernel_rfl) rfl #[.string t801, .string t802] rfl (by (try simp only [List.map_toArray, List.map_cons, List.map_nil]); rfl) ?_; (with_reducible refine (impl_SolveMost.calls k t801 t802 t807 true _ A8.out).mono ?_); rintro e w125 ⟨rfl, hb⟩; refine ⟨_, rfl, ?_⟩; replace HB := aM (below_step HB.out hb); (try clear hb)) | ((with_reducible refine gate_callee (f := 20) rfl ?_); refine goesL_ (some 47) rfl rfl Try.func20 (by kernel_rfl) rfl #[.string t801, .string t802, .string t801] rfl (by (try simp only [List.map_toArray, List.map_cons, List.map_nil]); rfl) ?_; (with_reducible refine (impl_SolveIs.calls k t801 t802 t801 false _ A9.out).mono ?_); rintro e w126 ⟨rfl, hb⟩; refine ⟨_, rfl, ?_⟩; replace HB := aM (below_step HB.out hb); (try clear hb)) | (go_at_call 27; (with_reducible refine (impl_StarHas.calls k t801 0 true _ A85.out).mono ?_); rintro e w127 ⟨rfl, hb⟩; replace HB := aM (below_step HB.out hb); (try clear hb)) | (go_at_call 27; (with_reducible refine (impl_StarHas.calls k t802 0 t815 _ A87.out).mono ?_); rintro e w128 ⟨rfl, hb⟩; replace HB := aM (below_step HB.out hb); (try clear hb)))
         go_ret
         exact ⟨by first | rfl | (simp [*, errW_none, errW_some] <;> rfl), HB.out⟩
       ·replace c90 := Bool.eq_false_iff.mpr c90
        subst c90
        replace H : (if t815 = true then ((impl_SetHas.f t801 0).bind fun t817 => (if t817 = true then (some true) else (some true))) else (some true)) = some r := by rw [if_neg (show ¬ (false = true) by decide)] at H; exact H
        by_cases c129 : t815 = true
        ·subst c129
         replace H : ((impl_SetHas.f t801 0).bind fun t817 => (if t817 = true then (some true) else (some true))) = some r := by rw [if_pos rfl] at H; exact H
         replace H := Option.bind_eq_some_iff.mp H
         obtain ⟨t817, A1300, H⟩ := H
         replace H : (if t817 = true then (some true) else (some true)) = some r := H
         have A130 := aM A1300
         clear A1300
         by_cases c131 : t817 = true
         all_goals
          first
          |replace c131 := Bool.eq_false_iff.mpr c131
          |skip
          subst c131
          first
          |replace H : (some true) = some r := by rw [if_pos rfl] at H; exact H
          |replace H : (some true) = some r := by rw [if_neg (show ¬ (false = true) by decide)] at H; exact H
          obtain rfl := Option.some.inj H
          go_enter Try.func6, Try.ntmps6
          go_wp2_with (first | ((with_reducible refine gate_callee (f := 24) rfl ?_); refine goesL_ (some 18) rfl rfl Try.func24 (by kernel_rfl) rfl #[.slice A0 l0.length c0] rfl (by (try simp only [List.map_toArray, List.map_cons, List.map_nil]); rfl) ?_; (with_reducible refine (spec_DrawSolveOne.calls k _ _ l0 t801 t802 _ ?side1 ?side2 A3.out).mono ?_); (case side1 => repeat (exact HR0.out)); (case side2 => exact HC0.out); rintro e w132 ⟨rfl, hb⟩; refine ⟨_, rfl, ?_⟩; replace HB := aM (below_step HB.out hb); (try clear hb)) | ((with_reducible refine gate_callee (f := 25) rfl ?_); refine goesL_ (some 23) rfl rfl Try.func25 (by kernel_rfl) rfl #[.string t801, .string t802] rfl (by (try simp only [List.map_toArray, List.map_cons, List.map_nil]); rfl) ?_; (with_reducible refine (impl_SolveOne.calls k t801 t802 true _ A4.out).mono ?_); rintro e w133 ⟨rfl, hb⟩; refine ⟨_, rfl, ?_⟩; replace HB := aM (below_step HB.out hb); (try clear hb)) | ((with_reducible refine gate_callee (f := 26) rfl ?_); refine goesL_ (some 26) rfl rfl Try.func26 (by kernel_rfl) rfl #[.string t801, .string t802] rfl (by (try simp only [List.map_toArray, List.map_cons, List.map_nil]); rfl) ?_; (with_reducible refine (spec_SolveOne.calls k t801 t802 t804 _ A5.out).mono ?_); rintro e w134 ⟨rfl, hb⟩; refine ⟨_, rfl, ?_⟩; replace HB := aM (below_step HB.out hb); (try clear hb)) | ((with_reducible refine gate_callee (f := 16) rfl ?_); refine goesL_ (some 35) rfl rfl Try.func16 (by kernel_rfl) rfl #[.string t801, .string t802] rfl (by (try simp only [List.map_toArray, List.map_cons, List.map_nil]); rfl) ?_; (with_reducible refine (impl_SolveLeast.calls k t801 t802 t805 true _ A7.out).mono ?_); rintro e w135 ⟨rfl, hb⟩; refine ⟨_, rfl, ?_⟩; replace HB := aM (below_step HB.out hb); (try clear hb)) | ((with_reducible refine gate_callee (f := 22) rfl ?_); refine goesL_ (some 41) rfl rfl Try.func22 (by kernel_rfl) rfl #[.string t801, .string t802] rfl (by (try simp only [List.map_toArray, List.map_cons, List.map_nil]); rfl) ?_; (with_reducible refine (impl_SolveMost.calls k t801 t802 t807 false _ A8.out).mono ?_); rintro e w136 ⟨rfl, hb⟩; refine ⟨_, rfl, ?_⟩; replace HB := aM (below_step HB.out hb); (try clear hb)) | ((with_reducible refine gate_callee (f := 20) rfl ?_); refine goesL_ (some 47) rfl rfl Try.func20 (by kernel_rfl) rfl #[.string t801, .string t802, .string t801] rfl (by (try simp only [List.map_toArray, List.map_cons, List.map_nil]); rfl) ?_; (with_reducible refine (impl_SolveIs.calls k t801 t802 t801 false _ A9.out).mono ?_); rintro e w137 ⟨rfl, hb⟩; refine ⟨_, rfl, ?_⟩; replace HB := aM (below_step HB.out hb); (try clear hb)) | (go_at_call 27; (with_reducible refine (impl_StarHas.calls k t801 0 true _ A85.out).mono ?_); rintro e w138 ⟨rfl, hb⟩; replace HB := aM (below_step HB.out hb); (try clear hb)) | (go_at_call 27; (with_reducible refine (impl_StarHas.calls k t802 0 true _ A87.out).mono ?_); rintro e w139 ⟨rfl, hb⟩; replace HB := aM (below_step HB.out hb); (try clear hb)) | (go_at_call 17; (with_reducible refine (impl_SetHas.calls t801 0 _ _ A130.out).mono ?_); rintro e w140 ⟨rfl, hb⟩; replace HB := aM (below_step HB.out hb); (try clear hb)))
          go_ret
          exact ⟨by first | rfl | (simp [*, errW_none, errW_some] <;> rfl), HB.out⟩
        ·replace c129 := Bool.eq_false_iff.mpr c129
         subst c129
         replace H : (some true) = some r := by rw [if_neg (show ¬ (false = true) by decide)] at H; exact H
         obtain rfl := Option.some.inj H
         go_enter Try.func6, Try.ntmps6
         go_wp2_with (first | ((with_reducible refine gate_callee (f := 24) rfl ?_); refine goesL_ (some 18) rfl rfl Try.func24 (by kernel_rfl) rfl #[.slice A0 l0.length c0] rfl (by (try simp only [List.map_toArray, List.map_cons, List.map_nil]); rfl) ?_; (with_reducible refine (spec_DrawSolveOne.calls k _ _ l0 t801 t802 _ ?side1 ?side2 A3.out).mono ?_); (case side1 => repeat (exact HR0.out)); (case side2 => exact HC0.out); rintro e w150 ⟨rfl, hb⟩; refine ⟨_, rfl, ?_⟩; replace HB := aM (below_step HB.out hb); (try clear hb)) | ((with_reducible refine gate_callee (f := 25) rfl ?_); refine goesL_ (some 23) rfl rfl Try.func25 (by kernel_rfl) rfl #[.string t801, .string t802] rfl (by (try simp only [List.map_toArray, List.map_cons, List.map_nil]); rfl) ?_; (with_reducible refine (impl_SolveOne.calls k t801 t802 true _ A4.out).mono ?_); rintro e w151 ⟨rfl, hb⟩; refine ⟨_, rfl, ?_⟩; replace HB := aM (below_step HB.out hb); (try clear hb)) | ((with_reducible refine gate_callee (f := 26) rfl ?_); refine goesL_ (some 26) rfl rfl Try.func26 (by kernel_rfl) rfl #[.string t801, .string t802] rfl (by (try simp only [List.map_toArray, List.map_cons, List.map_nil]); rfl) ?_; (with_reducible refine (spec_SolveOne.calls k t801 t802 t804 _ A5.out).mono ?_); rintro e w152 ⟨rfl, hb⟩; refine ⟨_, rfl, ?_⟩; replace HB := aM (below_step HB.out hb); (try clear hb)) | ((with_reducible refine gate_callee (f := 16) rfl ?_); refine goesL_ (some 35) rfl rfl Try.func16 (by kernel_rfl) rfl #[.string t801, .string t802] rfl (by (try simp only [List.map_toArray, List.map_cons, List.map_nil]); rfl) ?_; (with_reducible refine (impl_SolveLeast.calls k t801 t802 t805 true _ A7.out).mono ?_); rintro e w153 ⟨rfl, hb⟩; refine ⟨_, rfl, ?_⟩; replace HB := aM (below_step HB.out hb); (try clear hb)) | ((with_reducible refine gate_callee (f := 22) rfl ?_); refine goesL_ (some 41) rfl rfl Try.func22 (by kernel_rfl) rfl #[.string t801, .string t802] rfl (by (try simp only [List.map_toArray, List.map_cons, List.map_nil]); rfl) ?_; (with_reducible refine (impl_SolveMost.calls k t801 t802 t807 false _ A8.out).mono ?_); rintro e w154 ⟨rfl, hb⟩; refine ⟨_, rfl, ?_⟩; replace HB := aM (below_step HB.out hb); (try clear hb)) | ((with_reducible refine gate_callee (f := 20) rfl ?_); refine goesL_ (some 47) rfl rfl Try.func20 (by kernel_rfl) rfl #[.string t801, .string t802, .string t801] rfl (by (try simp only [List.map_toArray, List.map_cons, List.map_nil]); rfl) ?_; (with_reducible refine (impl_SolveIs.calls k t801 t802 t801 false _ A9.out).mono ?_); rintro e w155 ⟨rfl, hb⟩; refine ⟨_, rfl, ?_⟩; replace HB := aM (below_step HB.out hb); (try clear hb)) | (go_at_call 27; (with_reducible refine (impl_StarHas.calls k t801 0 true _ A85.out).mono ?_); rintro e w156 ⟨rfl, hb⟩; replace HB := aM (below_step HB.out hb); (try clear hb)) | (go_at_call 27; (with_reducible refine (impl_StarHas.calls k t802 0 false _ A87.out).mono ?_); rintro e w157 ⟨rfl, hb⟩; replace HB := aM (below_step HB.out hb); (try clear hb)))
         go_ret
         exact ⟨by first | rfl | (simp [*, errW_none, errW_some] <;> rfl), HB.out⟩
      ·replace c89 := Bool.eq_false_iff.mpr c89
       subst c89
       replace H : (if t815 = true then ((impl_SetHas.f t801 0).bind fun t818 => (if t818 = true then (some true) else (some true))) else (some true)) = some r := by rw [if_neg (show ¬ (false = true) by decide)] at H; exact H
       by_cases c158 : t815 = true
       ·subst c158
        replace H : ((impl_SetHas.f t801 0).bind fun t818 => (if t818 = true then (some true) else (some true))) = some r := by rw [if_pos rfl] at H; exact H
        replace H := Option.bind_eq_some_iff.mp H
        obtain ⟨t818, A1590, H⟩ := H
        replace H : (if t818 = true then (some true) else (some true)) = some r := H
        have A159 := aM A1590
        clear A1590
        by_cases c160 : t818 = true
        all_goals
         first
         |replace c160 := Bool.eq_false_iff.mpr c160
         |skip
         subst c160
         first
         |replace H : (some true) = some r := by rw [if_pos rfl] at H; exact H
         |replace H : (some true) = some r := by rw [if_neg (show ¬ (false = true) by decide)] at H; exact H
         obtain rfl := Option.some.inj H
         go_enter Try.func6, Try.ntmps6
         go_wp2_with (first | ((with_reducible refine gate_callee (f := 24) rfl ?_); refine goesL_ (some 18) rfl rfl Try.func24 (by kernel_rfl) rfl #[.slice A0 l0.length c0] rfl (by (try simp only [List.map_toArray, List.map_cons, List.map_nil]); rfl) ?_; (with_reducible refine (spec_DrawSolveOne.calls k _ _ l0 t801 t802 _ ?side1 ?side2 A3.out).mono ?_); (case side1 => repeat (exact HR0.out)); (case side2 => exact HC0.out); rintro e w161 ⟨rfl, hb⟩; refine ⟨_, rfl, ?_⟩; replace HB := aM (below_step HB.out hb); (try clear hb)) | ((with_reducible refine gate_callee (f := 25) rfl ?_); refine goesL_ (some 23) rfl rfl Try.func25 (by kernel_rfl) rfl #[.string t801, .string t802] rfl (by (try simp only [List.map_toArray, List.map_cons, List.map_nil]); rfl) ?_; (with_reducible refine (impl_SolveOne.calls k t801 t802 true _ A4.out).mono ?_); rintro e w162 ⟨rfl, hb⟩; refine ⟨_, rfl, ?_⟩; replace HB := aM (below_step HB.out hb); (try clear hb)) | ((with_reducible refine gate_callee (f := 26) rfl ?_); refine goesL_ (some 26) rfl rfl Try.func26 (by kernel_rfl) rfl #[.string t801, .string t802] rfl (by (try simp only [List.map_toArray, List.map_cons, List.map_nil]); rfl) ?_; (with_reducible refine (spec_SolveOne.calls k t801 t802 t804 _ A5.out).mono ?_); rintro e w163 ⟨rfl, hb⟩; refine ⟨_, rfl, ?_⟩; replace HB := aM (below_step HB.out hb); (try clear hb)) | ((with_reducible refine gate_callee (f := 16) rfl ?_); refine goesL_ (some 35) rfl rfl Try.func16 (by kernel_rfl) rfl #[.string t801, .string t802] rfl (by (try simp only [List.map_toArray, List.map_cons, List.map_nil]); rfl) ?_; (with_reducible refine (impl_SolveLeast.calls k t801 t802 t805 false _ A7.out).mono ?_); rintro e w164 ⟨rfl, hb⟩; refine ⟨_, rfl, ?_⟩; replace HB := aM (below_step HB.out hb); (try clear hb)) | ((with_reducible refine gate_callee (f := 22) rfl ?_); refine goesL_ (some 41) rfl rfl Try.func22 (by kernel_rfl) rfl #[.string t801, .string t802] rfl (by (try simp only [List.map_toArray, List.map_cons, List.map_nil]); rfl) ?_; (with_reducible refine (impl_SolveMost.calls k t801 t802 t807 t808 _ A8.out).mono ?_); rintro e w165 ⟨rfl, hb⟩; refine ⟨_, rfl, ?_⟩; replace HB := aM (below_step HB.out hb); (try clear hb)) | ((with_reducible refine gate_callee (f := 20) rfl ?_); refine goesL_ (some 47) rfl rfl Try.func20 (by kernel_rfl) rfl #[.string t801, .string t802, .string t801] rfl (by (try simp only [List.map_toArray, List.map_cons, List.map_nil]); rfl) ?_; (with_reducible refine (impl_SolveIs.calls k t801 t802 t801 false _ A9.out).mono ?_); rintro e w166 ⟨rfl, hb⟩; refine ⟨_, rfl, ?_⟩; replace HB := aM (below_step HB.out hb); (try clear hb)) | (go_at_call 27; (with_reducible refine (impl_StarHas.calls k t801 0 true _ A85.out).mono ?_); rintro e w167 ⟨rfl, hb⟩; replace HB := aM (below_step HB.out hb); (try clear hb)) | (go_at_call 27; (with_reducible refine (impl_StarHas.calls k t802 0 true _ A87.out).mono ?_); rintro e w168 ⟨rfl, hb⟩; replace HB := aM (below_step HB.out hb); (try clear hb)) | (go_at_call 17; (with_reducible refine (impl_SetHas.calls t801 0 _ _ A159.out).mono ?_); rintro e w169 ⟨rfl, hb⟩; replace HB := aM (below_step HB.out hb); (try clear hb)))
         go_ret
         exact ⟨by first | rfl | (simp [*, errW_none, errW_some] <;> rfl), HB.out⟩
       ·replace c158 := Bool.eq_false_iff.mpr c158
        subst c158
        replace H : (some true) = some r := by rw [if_neg (show ¬ (false = true) by decide)] at H; exact H
        obtain rfl := Option.some.inj H
        go_enter Try.func6, Try.ntmps6
        go_wp2_with (first | ((with_reducible refine gate_callee (f := 24) rfl ?_); refine goesL_ (some 18) rfl rfl Try.func24 (by kernel_rfl) rfl #[.slice A0 l0.length c0] rfl (by (try simp only [List.map_toArray, List.map_cons, List.map_nil]); rfl) ?_; (with_reducible refine (spec_DrawSolveOne.calls k _ _ l0 t801 t802 _ ?side1 ?side2 A3.out).mono ?_); (case side1 => repeat (exact HR0.out)); (case side2 => exact HC0.out); rintro e w179 ⟨rfl, hb⟩; refine ⟨_, rfl, ?_⟩; replace HB := aM (below_step HB.out hb); (try clear hb)) | ((with_reducible refine gate_callee (f := 25) rfl ?_); refine goesL_ (some 23) rfl rfl Try.func25 (by kernel_rfl) rfl #[.string t801, .string t802] rfl (by (try simp only [List.map_toArray, List.map_cons, List.map_nil]); rfl) ?_; (with_reducible refine (impl_SolveOne.calls k t801 t802 true _ A4.out).mono ?_); rintro e w180 ⟨rfl, hb⟩; refine ⟨_, rfl, ?_⟩; replace HB := aM (below_step HB.out hb); (try clear hb)) | ((with_reducible refine gate_callee (f := 26) rfl ?_); refine goesL_ (some 26) rfl rfl Try.func26 (by kernel_rfl) rfl #[.string t801, .string t802] rfl (by (try simp only [List.map_toArray, List.map_cons, List.map_nil]); rfl) ?_; (with_reducible refine (spec_SolveOne.calls k t801 t802 t804 _ A5.out).mono ?_); rintro e w181 ⟨rfl, hb⟩; refine ⟨_, rfl, ?_⟩; replace HB := aM (below_step HB.out hb); (try clear hb)) | ((with_reducible refine gate_callee (f := 16) rfl ?_); refine goesL_ (some 35) rfl rfl Try.func16 (by kernel_rfl) rfl #[.string t801, .string t802] rfl (by (try simp only [List.map_toArray, List.map_cons, List.map_nil]); rfl) ?_; (with_reducible refine (impl_SolveLeast.calls k t801 t802 t805 false _ A7.out).mono ?_); rintro e w182 ⟨rfl, hb⟩; refine ⟨_, rfl, ?_⟩; replace HB := aM (below_step HB.out hb); (try clear hb)) | ((with_reducible refine gate_callee (f := 22) rfl ?_); refine goesL_ (some 41) rfl rfl Try.func22 (by kernel_rfl) rfl #[.string t801, .string t802] rfl (by (try simp only [List.map_toArray, List.map_cons, List.map_nil]); rfl) ?_; (with_reducible refine (impl_SolveMost.calls k t801 t802 t807 t808 _ A8.out).mono ?_); rintro e w183 ⟨rfl, hb⟩; refine ⟨_, rfl, ?_⟩; replace HB := aM (below_step HB.out hb); (try clear hb)) | ((with_reducible refine gate_callee (f := 20) rfl ?_); refine goesL_ (some 47) rfl rfl Try.func20 (by kernel_rfl) rfl #[.string t801, .string t802, .string t801] rfl (by (try simp only [List.map_toArray, List.map_cons, List.map_nil]); rfl) ?_; (with_reducible refine (impl_SolveIs.calls k t801 t802 t801 false _ A9.out).mono ?_); rintro e w184 ⟨rfl, hb⟩; refine ⟨_, rfl, ?_⟩; replace HB := aM (below_step HB.out hb); (try clear hb)) | (go_at_call 27; (with_reducible refine (impl_StarHas.calls k t801 0 true _ A85.out).mono ?_); rintro e w185 ⟨rfl, hb⟩; replace HB := aM (below_step HB.out hb); (try clear hb)) | (go_at_call 27; (with_reducible refine (impl_StarHas.calls k t802 0 false _ A87.out).mono ?_); rintro e w186 ⟨rfl, hb⟩; replace HB := aM (below_step HB.out hb); (try clear hb)))
        go_ret
        exact ⟨by first | rfl | (simp [*, errW_none, errW_some] <;> rfl), HB.out⟩
     ·replace c88 := Bool.eq_false_iff.mpr c88
      subst c88
      replace H : (if t815 = true then ((impl_SetHas.f t801 0).bind fun t819 => (if t819 = true then (some true) else (some false))) else (some true)) = some r := by rw [if_neg (show ¬ (false = true) by decide)] at H; exact H
      by_cases c187 : t815 = true
      ·subst c187
       replace H : ((impl_SetHas.f t801 0).bind fun t819 => (if t819 = true then (some true) else (some false))) = some r := by rw [if_pos rfl] at H; exact H
       replace H := Option.bind_eq_some_iff.mp H
       obtain ⟨t819, A1880, H⟩ := H
       replace H : (if t819 = true then (some true) else (some false)) = some r := H
       have A188 := aM A1880
       clear A1880
       by_cases c189 : t819 = true
       all_goals
        first
        |replace c189 := Bool.eq_false_iff.mpr c189
        |skip
        subst c189
        first
        |replace H : (some true) = some r := by rw [if_pos rfl] at H; exact H
        |replace H : (some false) = some r := by rw [if_neg (show ¬ (false = true) by decide)] at H; exact H
        obtain rfl := Option.some.inj H
        go_enter Try.func6, Try.ntmps6
        go_wp2_with (first | ((with_reducible refine gate_callee (f := 24) rfl ?_); refine goesL_ (some 18) rfl rfl Try.func24 (by kernel_rfl) rfl #[.slice A0 l0.length c0] rfl (by (try simp only [List.map_toArray, List.map_cons, List.map_nil]); rfl) ?_; (with_reducible refine (spec_DrawSolveOne.calls k _ _ l0 t801 t802 _ ?side1 ?side2 A3.out).mono ?_); (case side1 => repeat (exact HR0.out)); (case side2 => exact HC0.out); rintro e w190 ⟨rfl, hb⟩; refine ⟨_, rfl, ?_⟩; replace HB := aM (below_step HB.out hb); (try clear hb)) | ((with_reducible refine gate_callee (f := 25) rfl ?_); refine goesL_ (some 23) rfl rfl Try.func25 (by kernel_rfl) rfl #[.string t801, .string t802] rfl (by (try simp only [List.map_toArray, List.map_cons, List.map_nil]); rfl) ?_; (with_reducible refine (impl_SolveOne.calls k t801 t802 false _ A4.out).mono ?_); rintro e w191 ⟨rfl, hb⟩; refine ⟨_, rfl, ?_⟩; replace HB := aM (below_step HB.out hb); (try clear hb)) | ((with_reducible refine gate_callee (f := 26) rfl ?_); refine goesL_ (some 26) rfl rfl Try.func26 (by kernel_rfl) rfl #[.string t801, .string t802] rfl (by (try simp only [List.map_toArray, List.map_cons, List.map_nil]); rfl) ?_; (with_reducible refine (spec_SolveOne.calls k t801 t802 t804 _ A5.out).mono ?_); rintro e w192 ⟨rfl, hb⟩; refine ⟨_, rfl, ?_⟩; replace HB := aM (below_step HB.out hb); (try clear hb)) | ((with_reducible refine gate_callee (f := 16) rfl ?_); refine goesL_ (some 35) rfl rfl Try.func16 (by kernel_rfl) rfl #[.string t801, .string t802] rfl (by (try simp only [List.map_toArray, List.map_cons, List.map_nil]); rfl) ?_; (with_reducible refine (impl_SolveLeast.calls k t801 t802 t805 t806 _ A7.out).mono ?_); rintro e w193 ⟨rfl, hb⟩; refine ⟨_, rfl, ?_⟩; replace HB := aM (below_step HB.out hb); (try clear hb)) | ((with_reducible refine gate_callee (f := 22) rfl ?_); refine goesL_ (some 41) rfl rfl Try.func22 (by kernel_rfl) rfl #[.string t801, .string t802] rfl (by (try simp only [List.map_toArray, List.map_cons, List.map_nil]); rfl) ?_; (with_reducible refine (impl_SolveMost.calls k t801 t802 t807 t808 _ A8.out).mono ?_); rintro e w194 ⟨rfl, hb⟩; refine ⟨_, rfl, ?_⟩; replace HB := aM (below_step HB.out hb); (try clear hb)) | ((with_reducible refine gate_callee (f := 20) rfl ?_); refine goesL_ (some 47) rfl rfl Try.func20 (by kernel_rfl) rfl #[.string t801, .string t802, .string t801] rfl (by (try simp only [List.map_toArray, List.map_cons, List.map_nil]); rfl) ?_; (with_reducible refine (impl_SolveIs.calls k t801 t802 t801 false _ A9.out).mono ?_); rintro e w195 ⟨rfl, hb⟩; refine ⟨_, rfl, ?_⟩; replace HB := aM (below_step HB.out hb); (try clear hb)) | (go_at_call 27; (with_reducible refine (impl_StarHas.calls k t801 0 true _ A85.out).mono ?_); rintro e w196 ⟨rfl, hb⟩; replace HB := aM (below_step HB.out hb); (try clear hb)) | (go_at_call 27; (with_reducible refine (impl_StarHas.calls k t802 0 true _ A87.out).mono ?_); rintro e w197 ⟨rfl, hb⟩; replace HB := aM (below_step HB.out hb); (try clear hb)) | (go_at_call 17; (with_reducible refine (impl_SetHas.calls t801 0 _ _ A188.out).mono ?_); rintro e w198 ⟨rfl, hb⟩; replace HB := aM (below_step HB.out hb); (try clear hb)))
        go_ret
        exact ⟨by first | rfl | (simp [*, errW_none, errW_some] <;> rfl), HB.out⟩
      ·replace c187 := Bool.eq_false_iff.mpr c187
       subst c187
       replace H : (some true) = some r := by rw [if_neg (show ¬ (false = true) by decide)] at H; exact H
       obtain rfl := Option.some.inj H
       go_enter Try.func6, Try.ntmps6
       go_wp2_with (first | ((with_reducible refine gate_callee (f := 24) rfl ?_); refine goesL_ (some 18) rfl rfl Try.func24 (by kernel_rfl) rfl #[.slice A0 l0.length c0] rfl (by (try simp only [List.map_toArray, List.map_cons, List.map_nil]); rfl) ?_; (with_reducible refine (spec_DrawSolveOne.calls k _ _ l0 t801 t802 _ ?side1 ?side2 A3.out).mono ?_); (case side1 => repeat (exact HR0.out)); (case side2 => exact HC0.out); rintro e w208 ⟨rfl, hb⟩; refine ⟨_, rfl, ?_⟩; replace HB := aM (below_step HB.out hb); (try clear hb)) | ((with_reducible refine gate_callee (f := 25) rfl ?_); refine goesL_ (some 23) rfl rfl Try.func25 (by kernel_rfl) rfl #[.string t801, .string t802] rfl (by (try simp only [List.map_toArray, List.map_cons, List.map_nil]); rfl) ?_; (with_reducible refine (impl_SolveOne.calls k t801 t802 false _ A4.out).mono ?_); rintro e w209 ⟨rfl, hb⟩; refine ⟨_, rfl, ?_⟩; replace HB := aM (below_step HB.out hb); (try clear hb)) | ((with_reducible refine gate_callee (f := 26) rfl ?_); refine goesL_ (some 26) rfl rfl Try.func26 (by kernel_rfl) rfl #[.string t801, .string t802] rfl (by (try simp only [List.map_toArray, List.map_cons, List.map_nil]); rfl) ?_; (with_reducible refine (spec_SolveOne.calls k t801 t802 t804 _ A5.out).mono ?_); rintro e w210 ⟨rfl, hb⟩; refine ⟨_, rfl, ?_⟩; replace HB := aM (below_step HB.out hb); (try clear hb)) | ((with_reducible refine gate_callee (f := 16) rfl ?_); refine goesL_ (some 35) rfl rfl Try.func16 (by kernel_rfl) rfl #[.string t801, .string t802] rfl (by (try simp only [List.map_toArray, List.map_cons, List.map_nil]); rfl) ?_; (with_reducible refine (impl_SolveLeast.calls k t801 t802 t805 t806 _ A7.out).mono ?_); rintro e w211 ⟨rfl, hb⟩; refine ⟨_, rfl, ?_⟩; replace HB := aM (below_step HB.out hb); (try clear hb)) | ((with_reducible refine gate_callee (f := 22) rfl ?_); refine goesL_ (some 41) rfl rfl Try.func22 (by kernel_rfl) rfl #[.string t801, .string t802] rfl (by (try simp only [List.map_toArray, List.map_cons, List.map_nil]); rfl) ?_; (with_reducible refine (impl_SolveMost.calls k t801 t802 t807 t808 _ A8.out).mono ?_); rintro e w212 ⟨rfl, hb⟩; refine ⟨_, rfl, ?_⟩; replace HB := aM (below_step HB.out hb); (try clear hb)) | ((with_reducible refine gate_callee (f := 20) rfl ?_); refine goesL_ (some 47) rfl rfl Try.func20 (by kernel_rfl) rfl #[.string t801, .string t802, .string t801] rfl (by (try simp only [List.map_toArray, List.map_cons, List.map_nil]); rfl) ?_; (with_reducible refine (impl_SolveIs.calls k t801 t802 t801 false _ A9.out).mono ?_); rintro e w213 ⟨rfl, hb⟩; refine ⟨_, rfl, ?_⟩; replace HB := aM (below_step HB.out hb); (try clear hb)) | (go_at_call 27; (with_reducible refine (impl_StarHas.calls k t801 0 true _ A85.out).mono ?_); rintro e w214 ⟨rfl, hb⟩; replace HB := aM (below_step HB.out hb); (try clear hb)) | (go_at_call 27; (with_reducible refine (impl_StarHas.calls k t802 0 false _ A87.out).mono ?_); rintro e w215 ⟨rfl, hb⟩; replace HB := aM (below_step HB.out hb); (try clear hb)))
       go_ret
       exact ⟨by first | rfl | (simp [*, errW_none, errW_some] <;> rfl), HB.out⟩
    ·replace c86 := Bool.eq_false_iff.mpr c86
     subst c86
     replace H : (if t803 = true then (if t806 = true then (if t808 = true then (if t805.toList = t807.toList then (some true) else (some false)) else (some true)) else (some true)) else (some true)) = some r := by rw [if_neg (show ¬ (false = true) by decide)] at H; exact H
     by_cases c216 : t803 = true
     ·subst c216
      replace H : (if t806 = true then (if t808 = true then (if t805.toList = t807.toList then (some true) else (some false)) else (some true)) else (some true)) = some r := by rw [if_pos rfl] at H; exact H
      by_cases c217 : t806 = true
      ·subst c217
       replace H : (if t808 = true then (if t805.toList = t807.toList then (some true) else (some false)) else (some true)) = some r := by rw [if_pos rfl] at H; exact H
       by_cases c218 : t808 = true
       ·subst c218
        replace H : (if t805.toList = t807.toList then (some true) else (some false)) = some r := by rw [if_pos rfl] at H; exact H
        by_cases c219 : t805.toList = t807.toList
        all_goals
         first
         |rw [if_pos c219] at H
          have c219b0 : (t805.toList == t807.toList) = true := beq_iff_eq.mpr c219
          have c219b1 : (t805.toList != t807.toList) = false := bne_eq_false_iff_eq.mpr c219
          clear c219
         |rw [if_neg c219] at H
          have c219b0 : (t805.toList == t807.toList) = false := beq_eq_false_iff_ne.mpr c219
          have c219b1 : (t805.toList != t807.toList) = true := bne_iff_ne.mpr c219
         obtain rfl := Option.some.inj H
         go_enter Try.func6, Try.ntmps6
         go_wp2_with (first | ((with_reducible refine gate_callee (f := 24) rfl ?_); refine goesL_ (some 18) rfl rfl Try.func24 (by kernel_rfl) rfl #[.slice A0 l0.length c0] rfl (by (try simp only [List.map_toArray, List.map_cons, List.map_nil]); rfl) ?_; (with_reducible refine (spec_DrawSolveOne.calls k _ _ l0 t801 t802 _ ?side1 ?side2 A3.out).mono ?_); (case side1 => repeat (exact HR0.out)); (case side2 => exact HC0.out); rintro e w220 ⟨rfl, hb⟩; refine ⟨_, rfl, ?_⟩; replace HB := aM (below_step HB.out hb); (try clear hb)) | ((with_reducible refine gate_callee (f := 25) rfl ?_); refine goesL_ (some 23) rfl rfl Try.func25 (by kernel_rfl) rfl #[.string t801, .string t802] rfl (by (try simp only [List.map_toArray, List.map_cons, List.map_nil]); rfl) ?_; (with_reducible refine (impl_SolveOne.calls k t801 t802 true _ A4.out).mono ?_); rintro e w221 ⟨rfl, hb⟩; refine ⟨_, rfl, ?_⟩; replace HB := aM (below_step HB.out hb); (try clear hb)) | ((with_reducible refine gate_callee (f := 26) rfl ?_); refine goesL_ (some 26) rfl rfl Try.func26 (by kernel_rfl) rfl #[.string t801, .string t802] rfl (by (try simp only [List.map_toArray, List.map_cons, List.map_nil]); rfl) ?_; (with_reducible refine (spec_SolveOne.calls k t801 t802 t804 _ A5.out).mono ?_); rintro e w222 ⟨rfl, hb⟩; refine ⟨_, rfl, ?_⟩; replace HB := aM (below_step HB.out hb); (try clear hb)) | ((with_reducible refine gate_callee (f := 16) rfl ?_); refine goesL_ (some 35) rfl rfl Try.func16 (by kernel_rfl) rfl #[.string t801, .string t802] rfl (by (try simp only [List.map_toArray, List.map_cons, List.map_nil]); rfl) ?_; (with_reducible refine (impl_SolveLeast.calls k t801 t802 t805 true _ A7.out).mono ?_); rintro e w223 ⟨rfl, hb⟩; refine ⟨_, rfl, ?_⟩; replace HB := aM (below_step HB.out hb); (try clear hb)) | ((with_reducible refine gate_callee (f := 22) rfl ?_); refine goesL_ (some 41) rfl rfl Try.func22 (by kernel_rfl) rfl #[.string t801, .string t802] rfl (by (try simp only [List.map_toArray, List.map_cons, List.map_nil]); rfl) ?_; (with_reducible refine (impl_SolveMost.calls k t801 t802 t807 true _ A8.out).mono ?_); rintro e w224 ⟨rfl, hb⟩; refine ⟨_, rfl, ?_⟩; replace HB := aM (below_step HB.out hb); (try clear hb)) | ((with_reducible refine gate_callee (f := 20) rfl ?_); refine goesL_ (some 47) rfl rfl Try.func20 (by kernel_rfl) rfl #[.string t801, .string t802, .string t801] rfl (by (try simp only [List.map_toArray, List.map_cons, List.map_nil]); rfl) ?_; (with_reducible refine (impl_SolveIs.calls k t801 t802 t801 false _ A9.out).mono ?_); rintro e w225 ⟨rfl, hb⟩; refine ⟨_, rfl, ?_⟩; replace HB := aM (below_step HB.out hb); (try clear hb)) | (go_at_call 27; (with_reducible refine (impl_StarHas.calls k t801 0 false _ A85.out).mono ?_); rintro e w226 ⟨rfl, hb⟩; replace HB := aM (below_step HB.out hb); (try clear hb)))
         go_ret
         exact ⟨by first | rfl | (simp [*, errW_none, errW_some] <;> rfl), HB.out⟩
       ·replace c218 := Bool.eq_false_iff.mpr c218
        subst c218
        replace H : (some true) = some r := by rw [if_neg (show ¬ (false = true) by decide)] at H; exact H
        obtain rfl := Option.some.inj H
        go_enter Try.func6, Try.ntmps6
        go_wp2_with (first | ((with_reducible refine gate_callee (f := 24) rfl ?_); refine goesL_ (some 18) rfl rfl Try.func24 (by kernel_rfl) rfl #[.slice A0 l0.length c0] rfl (by (try simp only [List.map_toArray, List.map_cons, List.map_nil]); rfl) ?_; (with_reducible refine (spec_DrawSolveOne.calls k _ _ l0 t801 t802 _ ?side1 ?side2 A3.out).mono ?_); (case side1 => repeat (exact HR0.out)); (case side2 => exact HC0.out); rintro e w234 ⟨rfl, hb⟩; refine ⟨_, rfl, ?_⟩; replace HB := aM (below_step HB.out hb); (try clear hb)) | ((with_reducible refine gate_callee (f := 25) rfl ?_); refine goesL_ (some 23) rfl rfl Try.func25 (by kernel_rfl) rfl #[.string t801, .string t802] rfl (by (try simp only [List.map_toArray, List.map_cons, List.map_nil]); rfl) ?_; (with_reducible refine (impl_SolveOne.calls k t801 t802 true _ A4.out).mono ?_); rintro e w235 ⟨rfl, hb⟩; refine ⟨_, rfl, ?_⟩; replace HB := aM (below_step HB.out hb); (try clear hb)) | ((with_reducible refine gate_callee (f := 26) rfl ?_); refine goesL_ (some 26) rfl rfl Try.func26 (by kernel_rfl) rfl #[.string t801, .string t802] rfl (by (try simp only [List.map_toArray, List.map_cons, List.map_nil]); rfl) ?_; (with_reducible refine (spec_SolveOne.calls k t801 t802 t804 _ A5.out).mono ?_); rintro e w236 ⟨rfl, hb⟩; refine ⟨_, rfl, ?_⟩; replace HB := aM (below_step HB.out hb); (try clear hb)) | ((with_reducible refine gate_callee (f := 16) rfl ?_); refine goesL_ (some 35) rfl rfl Try.func16 (by kernel_rfl) rfl #[.string t801, .string t802] rfl (by (try simp only [List.map_toArray, List.map_cons, List.map_nil]); rfl) ?_; (with_reducible refine (impl_SolveLeast.calls k t801 t802 t805 true _ A7.out).mono ?_); rintro e w237 ⟨rfl, hb⟩; refine ⟨_, rfl, ?_⟩; replace HB := aM (below_step HB.out hb); (try clear hb)) | ((with_reducible refine gate_callee (f := 22) rfl ?_); refine goesL_ (some 41) rfl rfl Try.func22 (by kernel_rfl) rfl #[.string t801, .string t802] rfl (by (try simp only [List.map_toArray, List.map_cons, List.map_nil]); rfl) ?_; (with_reducible refine (impl_SolveMost.calls k t801 t802 t807 false _ A8.out).mono ?_); rintro e w238 ⟨rfl, hb⟩; refine ⟨_, rfl, ?_⟩; replace HB := aM (below_step HB.out hb); (try clear hb)) | ((with_reducible refine gate_callee (f := 20) rfl ?_); refine goesL_ (some 47) rfl rfl Try.func20 (by kernel_rfl) rfl #[.string t801, .string t802, .string t801] rfl (by (try simp only [List.map_toArray, List.map_cons, List.map_nil]); rfl) ?_; (with_reducible refine (impl_SolveIs.calls k t801 t802 t801 false _ A9.out).mono ?_); rintro e w239 ⟨rfl, hb⟩; refine ⟨_, rfl, ?_⟩; replace HB := aM (below_step HB.out hb); (try clear hb)) | (go_at_call 27; (with_reducible refine (impl_StarHas.calls k t801 0 false _ A85.out).mono ?_); rintro e w240 ⟨rfl, hb⟩; replace HB := aM (below_step HB.out hb); (try clear hb)))
        go_ret
        exact ⟨by first | rfl | (simp [*, errW_none, errW_some] <;> rfl), HB.out⟩
      ·replace c217 := Bool.eq_false_iff.mpr c217
       subst c217
       replace H : (some true) = some r := by rw [if_neg (show ¬ (false = true) by decide)] at H; exact H
       obtain rfl := Option.some.inj H
       go_enter Try.func6, Try.ntmps6
       go_wp2_with (first | ((with_reducible refine gate_callee (f := 24) rfl ?_); refine goesL_ (some 18) rfl rfl Try.func24 (by kernel_rfl) rfl #[.slice A0 l0.length c0] rfl (by (try simp only [List.map_toArray, List.map_cons, List.map_nil]); rfl) ?_; (with_reducible refine (spec_DrawSolveOne.calls k _ _ l0 t801 t802 _ ?side1 ?side2 A3.out).mono ?_); (case side1 => repeat (exact HR0.out)); (case side2 => exact HC0.out); rintro e w241 ⟨rfl, hb⟩; refine ⟨_, rfl, ?_⟩; replace HB := aM (below_step HB.out hb); (try clear hb)) | ((with_reducible refine gate_callee (f := 25) rfl ?_); refine goesL_ (some 23) rfl rfl Try.func25 (by kernel_rfl) rfl #[.string t801, .string t802] rfl (by (try simp only [List.map_toArray, List.map_cons, List.map_nil]); rfl) ?_; (with_reducible refine (impl_SolveOne.calls k t801 t802 true _ A4.out).mono ?_); rintro e w242 ⟨rfl, hb⟩; refine ⟨_, rfl, ?_⟩; replace HB := aM (below_step HB.out hb); (try clear hb)) | ((with_reducible refine gate_callee (f := 26) rfl ?_); refine goesL_ (some 26) rfl rfl Try.func26 (by kernel_rfl) rfl #[.string t801, .string t802] rfl (by (try simp only [List.map_toArray, List.map_cons, List.map_nil]); rfl) ?_; (with_reducible refine (spec_SolveOne.calls k t801 t802 t804 _ A5.out).mono ?_); rintro e w243 ⟨rfl, hb⟩; refine ⟨_, rfl, ?_⟩; replace HB := aM (below_step HB.out hb); (try clear hb)) | ((with_reducible refine gate_callee (f := 16) rfl ?_); refine goesL_ (some 35) rfl rfl Try.func16 (by kernel_rfl) rfl #[.string t801, .string t802] rfl (by (try simp only [List.map_toArray, List.map_cons, List.map_nil]); rfl) ?_; (with_reducible refine (impl_SolveLeast.calls k t801 t802 t805 false _ A7.out).mono ?_); rintro e w244 ⟨rfl, hb⟩; refine ⟨_, rfl, ?_⟩; replace HB := aM (below_step HB.out hb); (try clear hb)) | ((with_reducible refine gate_callee (f := 22) rfl ?_); refine goesL_ (some 41) rfl rfl Try.func22 (by kernel_rfl) rfl #[.string t801, .string t802] rfl (by (try simp only [List.map_toArray, List.map_cons, List.map_nil]); rfl) ?_; (with_reducible refine (impl_SolveMost.calls k t801 t802 t807 t808 _ A8.out).mono ?_); rintro e w245 ⟨rfl, hb⟩; refine ⟨_, rfl, ?_⟩; replace HB := aM (below_step HB.out hb); (try clear hb)) | ((with_reducible refine gate_callee (f := 20) rfl ?_); refine goesL_ (some 47) rfl rfl Try.func20 (by kernel_rfl) rfl #[.string t801, .string t802, .string t801] rfl (by (try simp only [List.map_toArray, List.map_cons, List.map_nil]); rfl) ?_; (with_reducible refine (impl_SolveIs.calls k t801 t802 t801 false _ A9.out).mono ?_); rintro e w246 ⟨rfl, hb⟩; refine ⟨_, rfl, ?_⟩; replace HB := aM (below_step HB.out hb); (try clear hb)) | (go_at_call 27; (with_reducible refine (impl_StarHas.calls k t801 0 false _ A85.out).mono ?_); rintro e w247 ⟨rfl, hb⟩; replace HB := aM (below_step HB.out hb); (try clear hb)))
       go_ret
       exact ⟨by first | rfl | (simp [*, errW_none, errW_some] <;> rfl), HB.out⟩
     ·replace c216 := Bool.eq_false_iff.mpr c216
      subst c216
      replace H : (some true) = some r := by rw [if_neg (show ¬ (false = true) by decide)] at H; exact H
      obtain rfl := Option.some.inj H
      go_enter Try.func6, Try.ntmps6
      go_wp2_with (first | ((with_reducible refine gate_callee (f := 24) rfl ?_); refine goesL_ (some 18) rfl rfl Try.func24 (by kernel_rfl) rfl #[.slice A0 l0.length c0] rfl (by (try simp only [List.map_toArray, List.map_cons, List.map_nil]); rfl) ?_; (with_reducible refine (spec_DrawSolveOne.calls k _ _ l0 t801 t802 _ ?side1 ?side2 A3.out).mono ?_); (case side1 => repeat (exact HR0.out)); (case side2 => exact HC0.out); rintro e w248 ⟨rfl, hb⟩; refine ⟨_, rfl, ?_⟩; replace HB := aM (below_step HB.out hb); (try clear hb)) | ((with_reducible refine gate_callee (f := 25) rfl ?_); refine goesL_ (some 23) rfl rfl Try.func25 (by kernel_rfl) rfl #[.string t801, .string t802] rfl (by (try simp only [List.map_toArray, List.map_cons, List.map_nil]); rfl) ?_; (with_reducible refine (impl_SolveOne.calls k t801 t802 false _ A4.out).mono ?_); rintro e w249 ⟨rfl, hb⟩; refine ⟨_, rfl, ?_⟩; replace HB := aM (below_step HB.out hb); (try clear hb)) | ((with_reducible refine gate_callee (f := 26) rfl ?_); refine goesL_ (some 26) rfl rfl Try.func26 (by kernel_rfl) rfl #[.string t801, .string t802] rfl (by (try simp only [List.map_toArray, List.map_cons, List.map_nil]); rfl) ?_; (with_reducible refine (spec_SolveOne.calls k t801 t802 t804 _ A5.out).mono ?_); rintro e w250 ⟨rfl, hb⟩; refine ⟨_, rfl, ?_⟩; replace HB := aM (below_step HB.out hb); (try clear hb)) | ((with_reducible refine gate_callee (f := 16) rfl ?_); refine goesL_ (some 35) rfl rfl Try.func16 (by kernel_rfl) rfl #[.string t801, .string t802] rfl (by (try simp only [List.map_toArray, List.map_cons, List.map_nil]); rfl) ?_; (with_reducible refine (impl_SolveLeast.calls k t801 t802 t805 t806 _ A7.out).mono ?_); rintro e w251 ⟨rfl, hb⟩; refine ⟨_, rfl, ?_⟩; replace HB := aM (below_step HB.out hb); (try clear hb)) | ((with_reducible refine gate_callee (f := 22) rfl ?_); refine goesL_ (some 41) rfl rfl Try.func22 (by kernel_rfl) rfl #[.string t801, .string t802] rfl (by (try simp only [List.map_toArray, List.map_cons, List.map_nil]); rfl) ?_; (with_reducible refine (impl_SolveMost.calls k t801 t802 t807 t808 _ A8.out).mono ?_); rintro e w252 ⟨rfl, hb⟩; refine ⟨_, rfl, ?_⟩; replace HB := aM (below_step HB.out hb); (try clear hb)) | ((with_reducible refine gate_callee (f := 20) rfl ?_); refine goesL_ (some 47) rfl rfl Try.func20 (by kernel_rfl) rfl #[.string t801, .string t802, .string t801] rfl (by (try simp only [List.map_toArray, List.map_cons, List.map_nil]); rfl) ?_; (with_reducible refine (impl_SolveIs.calls k t801 t802 t801 false _ A9.out).mono ?_); rintro e w253 ⟨rfl, hb⟩; refine ⟨_, rfl, ?_⟩; replace HB := aM (below_step HB.out hb); (try clear hb)) | (go_at_call 27; (with_reducible refine (impl_StarHas.calls k t801 0 false _ A85.out).mono ?_); rintro e w254 ⟨rfl, hb⟩; replace HB := aM (below_step HB.out hb); (try clear hb)))
      go_ret
      exact ⟨by first | rfl | (simp [*, errW_none, errW_some] <;> rfl), HB.out⟩
  ·rw [if_neg c6] at H
   have c6b0 : (t803 == t804) = false := by simpa using c6
   (try (have c6b1 : decide (t803 = t804) = false := by simpa using c6))
   (try (have c6b2 : (t803 == t804) = false := by simpa using c6))
   (try (have c6b3 : ¬ (t803 = t804) := by simpa using c6))
   clear c6
   obtain rfl := Option.some.inj H
   go_enter Try.func6, Try.ntmps6
   go_wp2_with (first | ((with_reducible refine gate_callee (f := 24) rfl ?_); refine goesL_ (some 18) rfl rfl Try.func24 (by kernel_rfl) rfl #[.slice A0 l0.length c0] rfl (by (try simp only [List.map_toArray, List.map_cons, List.map_nil]); rfl) ?_; (with_reducible refine (spec_DrawSolveOne.calls k _ _ l0 t801 t802 _ ?side1 ?side2 A3.out).mono ?_); (case side1 => repeat (exact HR0.out)); (case side2 => exact HC0.out); rintro e w255 ⟨rfl, hb⟩; refine ⟨_, rfl, ?_⟩; replace HB := aM (below_step HB.out hb); (try clear hb)) | ((with_reducible refine gate_callee (f := 25) rfl ?_); refine goesL_ (some 23) rfl rfl Try.func25 (by kernel_rfl) rfl #[.string t801, .string t802] rfl (by (try simp only [List.map_toArray, List.map_cons, List.map_nil]); rfl) ?_; (with_reducible refine (impl_SolveOne.calls k t801 t802 t803 _ A4.out).mono ?_); rintro e w256 ⟨rfl, hb⟩; refine ⟨_, rfl, ?_⟩; replace HB := aM (below_step HB.out hb); (try clear hb)) | ((with_reducible refine gate_callee (f := 26) rfl ?_); refine goesL_ (some 26) rfl rfl Try.func26 (by kernel_rfl) rfl #[.string t801, .string t802] rfl (by (try simp only [List.map_toArray, List.map_cons, List.map_nil]); rfl) ?_; (with_reducible refine (spec_SolveOne.calls k t801 t802 t804 _ A5.out).mono ?_); rintro e w257 ⟨rfl, hb⟩; refine ⟨_, rfl, ?_⟩; replace HB := aM (below_step HB.out hb); (try clear hb)))
   go_ret
   exact ⟨by first | rfl | (simp [*, errW_none, errW_some] <;> rfl), HB.out⟩

/-- THE ONE PURE STATEMENT of laws_FnSolveOne: yours. -/
def laws_FnSolveOne.Pure : Prop := ∀ (l0 : List Int), l0.length ≤ maxLen → l0.length * 1 ≤ 140737488351232 → (∀ x ∈ l0, (Lit.int .u8 x).wf = true) → ∃ k, laws_FnSolveOne.f k l0 = some true
theorem laws_FnSolveOne.walk (P : laws_FnSolveOne.Pure) (a0 : Option Addr) (len0 cap0 : Nat) (z0 : List Int) (w : World) (w0 : (a0 = none ∧ len0 = 0 ∧ cap0 = 0 ∧ z0 = []) ∨ ∃ x, a0 = some x ∧ len0 ≤ cap0 ∧ cap0 ≤ maxLen ∧ z0.length = cap0 ∧ (∀ i, i < z0.length → w.cell? (x.add i) = some (.int .u8 (z0.getD i 0))) ∧ ∀ n ∈ z0, (Lit.int .u8 n).wf = true) (y0 : len0 * 1 ≤ 140737488351232) :
  Calls Try.prog 6 #[.slice a0 len0 cap0] w fun e w' => e = .returned (.bool true) ∧ Below w.heap.size w w' := by
 obtain ⟨l0, rfl, hr0, hm0, hw0, hc0⟩ := ReadsInt.ofRowC w0
 obtain ⟨k, h⟩ := P l0 hm0 y0 hw0
 refine (laws_FnSolveOne.calls k _ _ l0 true w (Kd.C_of_reads (d := (0 : Int)) (h1 := fun _ => rfl) hr0) hc0 h).mono ?_
 rintro e w' ⟨rfl, hd⟩
 exact ⟨rfl, hd⟩

end Go.Proofs.Ytpkpgdlbgcjloaa.Q

namespace Go.Proofs.Ytpkpgdlbgcjloaa.Q
open Go.RowKit Go.Proofs.YtpkpgdlbgcjloaaW.PrintWords Go.Proofs.YtpkpgdlbgcjloaaW.PrintLast Go.Proofs.YtpkpgdlbgcjloaaW.PrintMore
attribute [local go_sem] max2_int min2_int max_two min_two max_three min_three max_four min_four   -- for this text's walks alone
set_option linter.unusedVariables false
set_option linter.unusedSimpArgs false

end Go.Proofs.Ytpkpgdlbgcjloaa.Q

namespace Go.Proofs.Ytpkpgdlbgcjloaa.Q
open Go.RowKit Go.Proofs.YtpkpgdlbgcjloaaW.PrintWords Go.Proofs.YtpkpgdlbgcjloaaW.PrintLast Go.Proofs.YtpkpgdlbgcjloaaW.PrintMore
attribute [local go_sem] max2_int min2_int max_two min_two max_three min_three max_four min_four   -- for this text's walks alone
set_option linter.unusedVariables false
set_option linter.unusedSimpArgs false

end Go.Proofs.Ytpkpgdlbgcjloaa.Q

namespace Go.Proofs.Ytpkpgdlbgcjloaa.Q
open Go.RowKit Go.Proofs.YtpkpgdlbgcjloaaW.PrintWords Go.Proofs.YtpkpgdlbgcjloaaW.PrintLast Go.Proofs.YtpkpgdlbgcjloaaW.PrintMore
attribute [local go_sem] max2_int min2_int max_two min_two max_three min_three max_four min_four   -- for this text's walks alone
set_option linter.unusedVariables false
set_option linter.unusedSimpArgs false

end Go.Proofs.Ytpkpgdlbgcjloaa.Q

namespace Go.Proofs.Ytpkpgdlbgcjloaa.Q
open Go.RowKit Go.Proofs.YtpkpgdlbgcjloaaW.PrintWords Go.Proofs.YtpkpgdlbgcjloaaW.PrintLast Go.Proofs.YtpkpgdlbgcjloaaW.PrintMore
attribute [local go_sem] max2_int min2_int max_two min_two max_three min_three max_four min_four   -- for this text's walks alone
set_option linter.unusedVariables false
set_option linter.unusedSimpArgs false

end Go.Proofs.Ytpkpgdlbgcjloaa.Q

namespace Go.Proofs.Ytpkpgdlbgcjloaa.Q
open Go.RowKit Go.Proofs.YtpkpgdlbgcjloaaW.PrintWords Go.Proofs.YtpkpgdlbgcjloaaW.PrintLast Go.Proofs.YtpkpgdlbgcjloaaW.PrintMore
attribute [local go_sem] max2_int min2_int max_two min_two max_three min_three max_four min_four   -- for this text's walks alone
set_option linter.unusedVariables false
set_option linter.unusedSimpArgs false

end Go.Proofs.Ytpkpgdlbgcjloaa.Q

namespace Go.Proofs.Ytpkpgdlbgcjloaa.Q
open Go.RowKit Go.Proofs.YtpkpgdlbgcjloaaW.PrintWords Go.Proofs.YtpkpgdlbgcjloaaW.PrintLast Go.Proofs.YtpkpgdlbgcjloaaW.PrintMore
attribute [local go_sem] max2_int min2_int max_two min_two max_three min_three max_four min_four   -- for this text's walks alone
set_option linter.unusedVariables false
set_option linter.unusedSimpArgs false

end Go.Proofs.Ytpkpgdlbgcjloaa.Q

namespace Go.Proofs.Ytpkpgdlbgcjloaa.Q
open Go.RowKit Go.Proofs.YtpkpgdlbgcjloaaW.PrintWords Go.Proofs.YtpkpgdlbgcjloaaW.PrintLast Go.Proofs.YtpkpgdlbgcjloaaW.PrintMore
attribute [local go_sem] max2_int min2_int max_two min_two max_three min_three max_four min_four   -- for this text's walks alone
set_option linter.unusedVariables false
set_option linter.unusedSimpArgs false
def spec_l1Bit.f (a0 : Bool) : Option (Int) := if a0 = true then (some 1) else (some 0)

mutual
def spec_l1Write.l0 : Nat → List Int → Int → List Bool → List Bool → Option (ByteArray)
 | 0, _, _, _, _ => none
 | k + 1, x3, x4, x505000, x505001 => if x4 < (x505000.length : Int) then (if 0 ≤ x4 then ((spec_l1Bit.f (rdOf false x505000 x4)).bind fun t509 => (if 0 ≤ t509 then (if t509 < 2 then (if x3.length < 140737488355328 then (spec_l1Write.l0 k (x3 ++ [bt (⟨#[48, 49]⟩ : ByteArray) t509]) (wrap64 (x4 + 1)) x505000 x505001) else (none)) else (none)) else (none))) else (none)) else (if x3.length < 140737488355328 then (spec_l1Write.l1 k (x3 ++ [40]) 0 x505000 x505001) else (none))
def spec_l1Write.l1 : Nat → List Int → Int → List Bool → List Bool → Option (ByteArray)
 | 0, _, _, _, _ => none
 | k + 1, x3, x5, x505000, x505001 => if x5 < (x505001.length : Int) then (if 0 ≤ x5 then ((spec_l1Bit.f (rdOf false x505001 x5)).bind fun t517 => (if 0 ≤ t517 then (if t517 < 2 then (if x3.length < 140737488355328 then (spec_l1Write.l1 k (x3 ++ [bt (⟨#[48, 49]⟩ : ByteArray) t517]) (wrap64 (x5 + 1)) x505000 x505001) else (none)) else (none)) else (none))) else (none)) else (if x3.length < 140737488355328 then (some (strOfNums (x3 ++ [41]))) else (none))
end
def spec_l1Write.f (k : Nat) (l0_0 : List Bool) (l0_1 : List Bool) : Option (ByteArray) := spec_l1Write.l0 k (([] : List Int)) 0 l0_0 l0_1

def spec_l1Done.f (k : Nat) (l0_0 : List Bool) (l0_1 : List Bool) : Option (ByteArray × Bool) := (spec_l1Less.f k l0_0 l0_1).bind fun bt525 => (if (bt525.1.length : Int) > 60 then (some ((⟨#[]⟩ : ByteArray), false)) else (if (bt525.2.length : Int) > 60 then (some ((⟨#[]⟩ : ByteArray), false)) else ((spec_l1Write.f k bt525.1 bt525.2).bind fun t532 => (some (t532, true)))))

def spec_l2Fill.f (k : Nat) (l0 : List Bool) (a1 : Int) : Option (ByteArray × Bool) := if 0 ≤ a1 then (if a1 ≤ (l0.length : Int) then ((spec_l1Done.f k (l0.take (a1 : Int).toNat) (l0.drop (a1 : Int).toNat)).bind fun bt535 => (some (bt535.1, bt535.2))) else (none)) else (none)

def spec_l1Divisor.l0 : Nat → Int → Int → Option (Int)
 | 0, _, _ => none
 | k + 1, x0, x1 => if x1 > 0 then (if x1 = 0 then (none) else (spec_l1Divisor.l0 k x1 (Int.tmod x0 x1))) else (some x0)
def spec_l1Divisor.f (k : Nat) (a0 : Int) (a1 : Int) : Option (Int) := spec_l1Divisor.l0 k a0 a1

def spec_l1Shape.f (k : Nat) (l0_0 : List Bool) (l0_1 : List Bool) (l1_0 : List Bool) (l1_1 : List Bool) : Option (Int × Int) := (spec_l1Divisor.f k (l0_1.length : Int) (l1_1.length : Int)).bind fun t556 => (if t556 = 0 then (none) else (some (mx (l0_0.length : Int) (l1_0.length : Int), wrap64 ((wrap64 ((l0_1.length : Int) / t556)) * (l1_1.length : Int)))))

mutual
def spec_l4Sum.l0 : Nat → Bool → Int → Int → List Bool → Int → List Bool → List Bool → List Bool → List Bool → Option (ByteArray × Bool)
 | 0, _, _, _, _, _, _, _, _, _ => none
 | k + 1, x2, x8, x9, x10, x11, x558000, x558001, x559000, x559001 => if x11 < (wrap64 (x8 + x9)) then (spec_l4Sum.l1 k x2 x8 x9 x10 x11 false 0 x558000 x558001 x559000 x559001) else ((spec_l2Fill.f k x10 x8).bind fun bt564 => (some (bt564.1, bt564.2)))
def spec_l4Sum.l1 : Nat → Bool → Int → Int → List Bool → Int → Bool → Int → List Bool → List Bool → List Bool → List Bool → Option (ByteArray × Bool)
 | 0, _, _, _, _, _, _, _, _, _, _, _ => none
 | k + 1, x2, x8, x9, x10, x11, x12, x13, x558000, x558001, x559000, x559001 => if x13 ≤ x11 then (if x12 = true then (spec_l4Sum.l1 k x2 x8 x9 x10 x11 true (wrap64 (x13 + 1)) x558000 x558001 x559000 x559001) else ((spec_l1Has.f x558000 x558001 x13).bind fun t566 => (if t566 = true then ((spec_l1Has.f x559000 x559001 (wrap64 (x11 - x13))).bind fun t567 => (if t567 = true then (if x2 = true then (spec_l4Sum.l1 k x2 x8 x9 x10 x11 (x13 != (wrap64 (x11 - x13))) (wrap64 (x13 + 1)) x558000 x558001 x559000 x559001) else (spec_l4Sum.l1 k x2 x8 x9 x10 x11 true (wrap64 (x13 + 1)) x558000 x558001 x559000 x559001)) else (spec_l4Sum.l1 k x2 x8 x9 x10 x11 false (wrap64 (x13 + 1)) x558000 x558001 x559000 x559001))) else (spec_l4Sum.l1 k x2 x8 x9 x10 x11 false (wrap64 (x13 + 1)) x558000 x558001 x559000 x559001)))) else (if x10.length < 140737488355328 then (spec_l4Sum.l0 k x2 x8 x9 (x10 ++ [x12]) (wrap64 (x11 + 1)) x558000 x558001 x559000 x559001) else (none))
end
def spec_l4Sum.f (k : Nat) (l0_0 : List Bool) (l0_1 : List Bool) (l1_0 : List Bool) (l1_1 : List Bool) (a2 : Bool) : Option (ByteArray × Bool) := (spec_l1Shape.f k l0_0 l0_1 l1_0 l1_1).bind fun bt559 => (spec_l4Sum.l0 k a2 (wrap64 ((wrap64 ((wrap64 (2 * bt559.1)) + (wrap64 (3 * bt559.2)))) + 2)) bt559.2 (([] : List Bool)) 0 l0_0 l0_1 l1_0 l1_1)

def spec_SumOf.f (k : Nat) (a0 : ByteArray) (a1 : ByteArray) : Option (ByteArray × Bool) := (spec_l4Small.f k a0).bind fun bt571 => ((spec_l4Small.f k a1).bind fun bt579 => (if bt571.2.2 = true then (if bt579.2.2 = true then ((spec_l4Sum.f k bt571.1 bt571.2.1 bt579.1 bt579.2.1 false).bind fun bt587 => (some (bt587.1, bt587.2))) else (some ((⟨#[]⟩ : ByteArray), false))) else (some ((⟨#[]⟩ : ByteArray), false))))
end Go.Proofs.Ytpkpgdlbgcjloaa.Q

namespace Go.Proofs.Ytpkpgdlbgcjloaa.Q
open Go.RowKit Go.Proofs.YtpkpgdlbgcjloaaW.PrintWords Go.Proofs.YtpkpgdlbgcjloaaW.PrintLast Go.Proofs.YtpkpgdlbgcjloaaW.PrintMore
attribute [local go_sem] max2_int min2_int max_two min_two max_three min_three max_four min_four   -- for this text's walks alone
set_option linter.unusedVariables false
set_option linter.unusedSimpArgs false

end Go.Proofs.Ytpkpgdlbgcjloaa.Q

namespace Go.Proofs.Ytpkpgdlbgcjloaa.Q
open Go.RowKit Go.Proofs.YtpkpgdlbgcjloaaW.PrintWords Go.Proofs.YtpkpgdlbgcjloaaW.PrintLast Go.Proofs.YtpkpgdlbgcjloaaW.PrintMore
attribute [local go_sem] max2_int min2_int max_two min_two max_three min_three max_four min_four   -- for this text's walks alone
set_option linter.unusedVariables false
set_option linter.unusedSimpArgs false

end Go.Proofs.Ytpkpgdlbgcjloaa.Q

namespace Go.Proofs.Ytpkpgdlbgcjloaa.Q
open Go.RowKit Go.Proofs.YtpkpgdlbgcjloaaW.PrintWords Go.Proofs.YtpkpgdlbgcjloaaW.PrintLast Go.Proofs.YtpkpgdlbgcjloaaW.PrintMore
attribute [local go_sem] max2_int min2_int max_two min_two max_three min_three max_four min_four   -- for this text's walks alone
set_option linter.unusedVariables false
set_option linter.unusedSimpArgs false
def spec_l4Least.l0 : Nat → Int → List Bool → List Bool → Option (Int)
 | 0, _, _, _ => none
 | k + 1, x3, x485000, x485001 => if x3 ≤ 20 then ((spec_l1Has.f x485000 x485001 x3).bind fun t485 => (if t485 = true then (some x3) else (spec_l4Least.l0 k (wrap64 (x3 + 1)) x485000 x485001))) else (some 0)
def spec_l4Least.f (k : Nat) (l0_0 : List Bool) (l0_1 : List Bool) : Option (Int) := spec_l4Least.l0 k 1 l0_0 l0_1

mutual
def spec_l4Star.l0 : Nat → Int → List Bool → List Int → Int → List Bool → List Bool → Option (List Bool)
 | 0, _, _, _, _, _, _ => none
 | k + 1, x1, x5, x6, x7, x487000, x487001 => if x7 < x1 then (spec_l4Star.l1 k x1 x5 x6 x7 0 x487000 x487001) else (some x5)
def spec_l4Star.j2 : Nat → Int → List Bool → List Int → Int → List Bool → List Bool → Option (List Bool)
 | 0, _, _, _, _, _, _ => none
 | k + 1, x1, x5, x6, x7, x487000, x487001 => if x7 = 0 then (if 0 < (x5.length : Int) then (spec_l4Star.l0 k x1 (x5.set (0 : Int).toNat true) x6 (wrap64 (x7 + 1)) x487000 x487001) else (none)) else (if 0 ≤ x7 then (if x7 < (x5.length : Int) then (if rdOf false x5 x7 = true then (spec_l4Star.l0 k x1 x5 x6 (wrap64 (x7 + 1)) x487000 x487001) else ((spec_l1Has.f x487000 x487001 x7).bind fun t499 => (if t499 = true then (if x6.length < 17592186044416 then (spec_l4Star.l0 k x1 (x5.set (x7 : Int).toNat true) (x6 ++ [x7]) (wrap64 (x7 + 1)) x487000 x487001) else (none)) else (spec_l4Star.l0 k x1 x5 x6 (wrap64 (x7 + 1)) x487000 x487001)))) else (none)) else (none))
def spec_l4Star.l1 : Nat → Int → List Bool → List Int → Int → Int → List Bool → List Bool → Option (List Bool)
 | 0, _, _, _, _, _, _, _ => none
 | k + 1, x1, x5, x6, x7, x8, x487000, x487001 => if x8 < (x6.length : Int) then (if 0 ≤ x7 then (if x7 < (x5.length : Int) then (if rdOf false x5 x7 = true then (spec_l4Star.j2 k x1 x5 x6 x7 x487000 x487001) else (if 0 ≤ x8 then (if 0 ≤ (wrap64 (x7 - (rd x6 x8))) then (if (wrap64 (x7 - (rd x6 x8))) < (x5.length : Int) then (spec_l4Star.l1 k x1 (x5.set (x7 : Int).toNat (rdOf false x5 (wrap64 (x7 - (rd x6 x8))))) x6 x7 (wrap64 (x8 + 1)) x487000 x487001) else (none)) else (none)) else (none))) else (none)) else (none)) else (spec_l4Star.j2 k x1 x5 x6 x7 x487000 x487001)
end
def spec_l4Star.f (k : Nat) (l0_0 : List Bool) (l0_1 : List Bool) (a1 : Int) : Option (List Bool) := if 0 ≤ a1 then (if (a1 : Int).toNat ≤ 281474976710656 then (spec_l4Star.l0 k a1 (List.replicate (a1 : Int).toNat false) (([] : List Int)) 0 l0_0 l0_1) else (none)) else (none)

def spec_l4Whole.f (k : Nat) (l0_0 : List Bool) (l0_1 : List Bool) : Option (ByteArray × Bool) := (spec_l4Least.f k l0_0 l0_1).bind fun t538 => (if t538 = 0 then (some ((⟨#[49, 40, 48, 41]⟩ : ByteArray), true)) else ((spec_l4Star.f k l0_0 l0_1 (wrap64 (2400 + t538))).bind fun t539 => ((spec_l2Fill.f k t539 2400).bind fun bt542 => (some (bt542.1, bt542.2)))))

def spec_StarOf.f (k : Nat) (a0 : ByteArray) : Option (ByteArray × Bool) := (spec_l4Small.f k a0).bind fun bt544 => (if bt544.2.2 = true then ((spec_l4Whole.f k bt544.1 bt544.2.1).bind fun bt552 => (some (bt552.1, bt552.2))) else (some ((⟨#[]⟩ : ByteArray), false)))

def spec_SolveLeast.j0 : Nat → ByteArray → ByteArray → Bool → Option (ByteArray × Bool)
 | 0, _, _, _ => none
 | k + 1, x0, x1, x27 => if x27 = true then (some ((⟨#[]⟩ : ByteArray), false)) else ((spec_StarOf.f k x0).bind fun bt605 => (if bt605.2 = true then ((spec_SumOf.f k bt605.1 x1).bind fun bt607 => (some (bt607.1, bt607.2))) else (some ((⟨#[]⟩ : ByteArray), false))))
def spec_SolveLeast.f (k : Nat) (a0 : ByteArray) (a1 : ByteArray) : Option (ByteArray × Bool) := (spec_l4Small.f k a0).bind fun bt589 => ((spec_l4Small.f k a1).bind fun bt597 => (if bt589.2.2 = true then (spec_SolveLeast.j0 k a0 a1 (!bt597.2.2)) else (spec_SolveLeast.j0 k a0 a1 true)))

def impl_both.f (k : Nat) (l0_0 : List Bool) (l0_1 : List Bool) (l1_0 : List Bool) (l1_1 : List Bool) : Option (Int × Int) := (impl_lcm.f k (l0_1.length : Int) (l1_1.length : Int)).bind fun t702 => (some (mx (l0_0.length : Int) (l1_0.length : Int), t702))
theorem impl_both.mono : ∀ a0 a1 a2 a3 k, LeO (impl_both.f k a0 a1 a2 a3) (impl_both.f (k + 1) a0 a1 a2 a3) := by
 intro a0 a1 a2 a3 k
 unfold impl_both.f
 repeat' first
   |(with_reducible exact impl_lcm.mono _ _ _)
   |(with_reducible exact LeO.refl _)
   |(with_reducible exact LeO.none _)
   |(with_reducible refine LeO.ite ?_ ?_)
   |(with_reducible refine LeO.bind ?_ (fun _ => ?_))
   |exact impl_lcm.mono _ _ _
   |exact LeO.none _
   |refine LeO.ite ?_ ?_
   |refine LeO.bind ?_ (fun _ => ?_)
set_option maxHeartbeats 8000000 in
set_option maxRecDepth 100000 in
theorem impl_both.calls (k : Nat) (A0_0 : Option Addr) (c0_0 : Nat) (l0_0 : List Bool) (A0_1 : Option Addr) (c0_1 : Nat) (l0_1 : List Bool) (A1_0 : Option Addr) (c1_0 : Nat) (l1_0 : List Bool) (A1_1 : Option Addr) (c1_1 : Nat) (l1_1 : List Bool) (r1 : Int) (r2 : Int) (w : World) (hr0_0 : Kd.C Kd.bool w A0_0 l0_0.length l0_0) (hc0_0 : l0_0.length ≤ c0_0) (hr0_1 : Kd.C Kd.bool w A0_1 l0_1.length l0_1) (hc0_1 : l0_1.length ≤ c0_1) (hr1_0 : Kd.C Kd.bool w A1_0 l1_0.length l1_0) (hc1_0 : l1_0.length ≤ c1_0) (hr1_1 : Kd.C Kd.bool w A1_1 l1_1.length l1_1) (hc1_1 : l1_1.length ≤ c1_1) (h : impl_both.f k l0_0 l0_1 l1_0 l1_1 = some (r1, r2)) :
  Calls Try.prog 68 #[.agg #[.slice A0_0 l0_0.length c0_0, .slice A0_1 l0_1.length c0_1], .agg #[.slice A1_0 l1_0.length c1_0, .slice A1_1 l1_1.length c1_1]] w fun e w' => e = .returned (.tuple #[.int .i64 r1, .int .i64 r2]) ∧ Below w.heap.size w w' := by
 have hu60 := Try.underlying60
 have HR0_0 := aM hr0_0
 have HC0_0 := aM hc0_0
 clear hr0_0 hc0_0
 have HR0_1 := aM hr0_1
 have HC0_1 := aM hc0_1
 clear hr0_1 hc0_1
 have HR1_0 := aM hr1_0
 have HC1_0 := aM hc1_0
 clear hr1_0 hc1_0
 have HR1_1 := aM hr1_1
 have HC1_1 := aM hc1_1
 clear hr1_1 hc1_1
 have HB := aM (Below.refl w.heap.size w)
 have H : ((impl_lcm.f k (l0_1.length : Int) (l1_1.length : Int)).bind fun t702 => (some (mx (l0_0.length : Int) (l1_0.length : Int), t702))) = some (r1, r2) := h
 clear h
 obtain ⟨ji3, hji3⟩ : ∃ j_ : Int, (mx (l0_0.length : Int) (l1_0.length : Int)) = j_ := ⟨_, rfl⟩
 replace H : ((impl_lcm.f k (l0_1.length : Int) (l1_1.length : Int)).bind fun t702 => (some (ji3, t702))) = some (r1, r2) := by first | (rw [hji3] at H; exact H) | (simp only [hji3] at H ⊢; exact H)
 (try (have hji3l : 0 ≤ ji3 := by (rw [← hji3]; unfold mx; (repeat' split) <;> omega)))
 (try (have hji3m : 0 ≤ ji3 := by omega))
 have hji3_ : (if (l0_0.length : Int) < (l1_0.length : Int) then (l1_0.length : Int) else (l0_0.length : Int)) = ji3 := hji3
 have hji3n : (if l0_0.length < l1_0.length then (l1_0.length : Int) else (l0_0.length : Int)) = ji3 := by rw [← hji3_]; split <;> split <;> omega
 replace H := Option.bind_eq_some_iff.mp H
 obtain ⟨t702, A40, H⟩ := H
 replace H : (some (ji3, t702)) = some (r1, r2) := H
 have A4 := aM A40
 clear A40
 simp only [Option.some.injEq, Prod.mk.injEq] at H
 obtain ⟨rfl, rfl⟩ := H
 go_enter Try.func68, Try.ntmps68
 go_wp2_with (first | ((with_reducible refine gate_dst (N := 2) rfl ?_); refine box_event ?hg (N := 2) ?hd (cs := #[.slice A0_0 l0_0.length c0_0, .slice A0_1 l0_1.length c0_1]) (t := 60) ?hr ?_; (case hd => rfl); (case hg => rfl); (case hr => first | (go_simp; done) | (go_simp; rfl)); intro gb700 hg w5 hbox hb; have BK700 := aM hbox; have GW700 := aM ((by rw [hg]; exact (below_size (by repeat (first | (with_reducible first | exact HB.out | apply bA | apply bN | apply b1) | exact HB.out))) : w.heap.size ≤ gb700)); have GE700 := aM ((by rw [hg]; exact (below_size (by repeat (first | (with_reducible first | exact HB.out | apply bA | apply bN | apply b1) | exact HB.out))) : w.heap.size ≤ gb700)); replace HB := aM (below_step (by repeat (first | (with_reducible first | exact HB.out | apply bA | apply bN | apply b1) | exact HB.out)) hb); clear hb hbox hg) | ((with_reducible refine gate_dst (N := 3) rfl ?_); refine box_event ?hg (N := 3) ?hd (cs := #[.slice A1_0 l1_0.length c1_0, .slice A1_1 l1_1.length c1_1]) (t := 60) ?hr ?_; (case hd => rfl); (case hg => rfl); (case hr => first | (go_simp; done) | (go_simp; rfl)); intro gb701 hg w6 hbox hb; have BK701 := aM hbox; have GW701 := aM ((by rw [hg]; exact (below_size (by repeat (first | (with_reducible first | exact HB.out | apply bA | apply bN | apply b1 | refine bS ?_ GE700.out) | exact HB.out))) : w.heap.size ≤ gb701)); have GE701 := aM ((by rw [hg]; exact (below_size (by repeat (first | (with_reducible first | exact HB.out | apply bA | apply bN | apply b1 | refine bS ?_ GE700.out) | exact HB.out))) : w.heap.size ≤ gb701)); replace HB := aM (below_step (by repeat (first | (with_reducible first | exact HB.out | apply bA | apply bN | apply b1 | refine bS ?_ GE700.out) | exact HB.out)) hb); have NB700_701 := aM ((by rw [hg]; exact Nat.ne_of_lt (blk_lt (g := gb700) (o := .cells #[.slice A0_0 l0_0.length c0_0, .slice A0_1 l0_1.length c0_1] 60 (0, 0)) (by (with_reducible repeat (first | refine kN ?_ _ | refine kD ?_ | refine kA ?_ _)); exact BK700.out)) : gb700 ≠ gb701)); have NB701_700 := aM ((by rw [hg]; exact Nat.ne_of_gt (blk_lt (g := gb700) (o := .cells #[.slice A0_0 l0_0.length c0_0, .slice A0_1 l0_1.length c0_1] 60 (0, 0)) (by (with_reducible repeat (first | refine kN ?_ _ | refine kD ?_ | refine kA ?_ _)); exact BK700.out)) : gb701 ≠ gb700)); replace BK700 := aM (blk_below (g := gb700) (o := .cells #[.slice A0_0 l0_0.length c0_0, .slice A0_1 l0_1.length c0_1] 60 (0, 0)) (by (with_reducible repeat (first | refine kN ?_ _ | refine kD ?_ | refine kA ?_ _)); exact BK700.out) hb); clear hb hbox hg; have hnb7 := NB700_701.out; have hnc7 := NB701_700.out; have hcz8_0 : w6.cell? ⟨gb700, 0, none⟩ = some (.slice A0_0 l0_0.length c0_0) := (blk_cell BK700.out 0).trans rfl; have hcz8_1 : w6.cell? ⟨gb700, 1, none⟩ = some (.slice A0_1 l0_1.length c0_1) := (blk_cell BK700.out 1).trans rfl; have hfz8_0 := blk_frozen BK700.out 0; have hfz8_1 := blk_frozen BK700.out 1; have hcz9_0 : w6.cell? ⟨gb701, 0, none⟩ = some (.slice A1_0 l1_0.length c1_0) := (blk_cell BK701.out 0).trans rfl; have hcz9_1 : w6.cell? ⟨gb701, 1, none⟩ = some (.slice A1_1 l1_1.length c1_1) := (blk_cell BK701.out 1).trans rfl; have hfz9_0 := blk_frozen BK701.out 0; have hfz9_1 := blk_frozen BK701.out 1) | (go_at_call 86; (with_reducible refine (impl_lcm.calls k (l0_1.length : Int) (l1_1.length : Int) t702 _ A4.out).mono ?_); rintro e w' ⟨rfl, ⟨nd, rfl⟩⟩; (try first | exact ⟨rfl, _, World.drewN_drewN _ _ _⟩ | exact ⟨rfl, _, Eq.trans (World.drewN_drewN _ _ _) (congrArg (World.drewN _) (Nat.add_assoc _ _ _))⟩)))
 repeat (go_quiet (first | ((with_reducible refine gate_dst (N := 2) rfl ?_); refine box_event ?hg (N := 2) ?hd (cs := #[.slice A0_0 l0_0.length c0_0, .slice A0_1 l0_1.length c0_1]) (t := 60) ?hr ?_; (case hd => rfl); (case hg => rfl); (case hr => first | (go_simp; done) | (go_simp; rfl)); intro gb700 hg w5 hbox hb; have BK700 := aM hbox; have GW700 := aM ((by rw [hg]; exact (below_size (by repeat (first | (with_reducible first | exact HB.out | apply bA | apply bN | apply b1) | exact HB.out))) : w.heap.size ≤ gb700)); have GE700 := aM ((by rw [hg]; exact (below_size (by repeat (first | (with_reducible first | exact HB.out | apply bA | apply bN | apply b1) | exact HB.out))) : w.heap.size ≤ gb700)); replace HB := aM (below_step (by repeat (first | (with_reducible first | exact HB.out | apply bA | apply bN | apply b1) | exact HB.out)) hb); clear hb hbox hg) | ((with_reducible refine gate_dst (N := 3) rfl ?_); refine box_event ?hg (N := 3) ?hd (cs := #[.slice A1_0 l1_0.length c1_0, .slice A1_1 l1_1.length c1_1]) (t := 60) ?hr ?_; (case hd => rfl); (case hg => rfl); (case hr => first | (go_simp; done) | (go_simp; rfl)); intro gb701 hg w6 hbox hb; have BK701 := aM hbox; have GW701 := aM ((by rw [hg]; exact (below_size (by repeat (first | (with_reducible first | exact HB.out | apply bA | apply bN | apply b1 | refine bS ?_ GE700.out) | exact HB.out))) : w.heap.size ≤ gb701)); have GE701 := aM ((by rw [hg]; exact (below_size (by repeat (first | (with_reducible first | exact HB.out | apply bA | apply bN | apply b1 | refine bS ?_ GE700.out) | exact HB.out))) : w.heap.size ≤ gb701)); replace HB := aM (below_step (by repeat (first | (with_reducible first | exact HB.out | apply bA | apply bN | apply b1 | refine bS ?_ GE700.out) | exact HB.out)) hb); have NB700_701 := aM ((by rw [hg]; exact Nat.ne_of_lt (blk_lt (g := gb700) (o := .cells #[.slice A0_0 l0_0.length c0_0, .slice A0_1 l0_1.length c0_1] 60 (0, 0)) (by (with_reducible repeat (first | refine kN ?_ _ | refine kD ?_ | refine kA ?_ _)); exact BK700.out)) : gb700 ≠ gb701)); have NB701_700 := aM ((by rw [hg]; exact Nat.ne_of_gt (blk_lt (g := gb700) (o := .cells #[.slice A0_0 l0_0.length c0_0, .slice A0_1 l0_1.length c0_1] 60 (0, 0)) (by (with_reducible repeat (first | refine kN ?_ _ | refine kD ?_ | refine kA ?_ _)); exact BK700.out)) : gb701 ≠ gb700)); replace BK700 := aM (blk_below (g := gb700) (o := .cells #[.slice A0_0 l0_0.length c0_0, .slice A0_1 l0_1.length c0_1] 60 (0, 0)) (by (with_reducible repeat (first | refine kN ?_ _ | refine kD ?_ | refine kA ?_ _)); exact BK700.out) hb); clear hb hbox hg; have hnb7 := NB700_701.out; have hnc7 := NB701_700.out; have hcz8_0 : w6.cell? ⟨gb700, 0, none⟩ = some (.slice A0_0 l0_0.length c0_0) := (blk_cell BK700.out 0).trans rfl; have hcz8_1 : w6.cell? ⟨gb700, 1, none⟩ = some (.slice A0_1 l0_1.length c0_1) := (blk_cell BK700.out 1).trans rfl; have hfz8_0 := blk_frozen BK700.out 0; have hfz8_1 := blk_frozen BK700.out 1; have hcz9_0 : w6.cell? ⟨gb701, 0, none⟩ = some (.slice A1_0 l1_0.length c1_0) := (blk_cell BK701.out 0).trans rfl; have hcz9_1 : w6.cell? ⟨gb701, 1, none⟩ = some (.slice A1_1 l1_1.length c1_1) := (blk_cell BK701.out 1).trans rfl; have hfz9_0 := blk_frozen BK701.out 0; have hfz9_1 := blk_frozen BK701.out 1) | (go_at_call 86; (with_reducible refine (impl_lcm.calls k (l0_1.length : Int) (l1_1.length : Int) t702 _ A4.out).mono ?_); rintro e w' ⟨rfl, ⟨nd, rfl⟩⟩; (try first | exact ⟨rfl, _, World.drewN_drewN _ _ _⟩ | exact ⟨rfl, _, Eq.trans (World.drewN_drewN _ _ _) (congrArg (World.drewN _) (Nat.add_assoc _ _ _))⟩))); try go_wp2_with (first | ((with_reducible refine gate_dst (N := 2) rfl ?_); refine box_event ?hg (N := 2) ?hd (cs := #[.slice A0_0 l0_0.length c0_0, .slice A0_1 l0_1.length c0_1]) (t := 60) ?hr ?_; (case hd => rfl); (case hg => rfl); (case hr => first | (go_simp; done) | (go_simp; rfl)); intro gb700 hg w5 hbox hb; have BK700 := aM hbox; have GW700 := aM ((by rw [hg]; exact (below_size (by repeat (first | (with_reducible first | exact HB.out | apply bA | apply bN | apply b1) | exact HB.out))) : w.heap.size ≤ gb700)); have GE700 := aM ((by rw [hg]; exact (below_size (by repeat (first | (with_reducible first | exact HB.out | apply bA | apply bN | apply b1) | exact HB.out))) : w.heap.size ≤ gb700)); replace HB := aM (below_step (by repeat (first | (with_reducible first | exact HB.out | apply bA | apply bN | apply b1) | exact HB.out)) hb); clear hb hbox hg) | ((with_reducible refine gate_dst (N := 3) rfl ?_); refine box_event ?hg (N := 3) ?hd (cs := #[.slice A1_0 l1_0.length c1_0, .slice A1_1 l1_1.length c1_1]) (t := 60) ?hr ?_; (case hd => rfl); (case hg => rfl); (case hr => first | (go_simp; done) | (go_simp; rfl)); intro gb701 hg w6 hbox hb; have BK701 := aM hbox; have GW701 := aM ((by rw [hg]; exact (below_size (by repeat (first | (with_reducible first | exact HB.out | apply bA | apply bN | apply b1 | refine bS ?_ GE700.out) | exact HB.out))) : w.heap.size ≤ gb701)); have GE701 := aM ((by rw [hg]; exact (below_size (by repeat (first | (with_reducible first | exact HB.out | apply bA | apply bN | apply b1 | refine bS ?_ GE700.out) | exact HB.out))) : w.heap.size ≤ gb701)); replace HB := aM (below_step (by repeat (first | (with_reducible first | exact HB.out | apply bA | apply bN | apply b1 | refine bS ?_ GE700.out) | exact HB.out)) hb); have NB700_701 := aM ((by rw [hg]; exact Nat.ne_of_lt (blk_lt (g := gb700) (o := .cells #[.slice A0_0 l0_0.length c0_0, .slice A0_1 l0_1.length c0_1] 60 (0, 0)) (by (with_reducible repeat (first | refine kN ?_ _ | refine kD ?_ | refine kA ?_ _)); exact BK700.out)) : gb700 ≠ gb701)); have NB701_700 := aM ((by rw [hg]; exact Nat.ne_of_gt (blk_lt (g := gb700) (o := .cells #[.slice A0_0 l0_0.length c0_0, .slice A0_1 l0_1.length c0_1] 60 (0, 0)) (by (with_reducible repeat (first | refine kN ?_ _ | refine kD ?_ | refine kA ?_ _)); exact BK700.out)) : gb701 ≠ gb700)); replace BK700 := aM (blk_below (g := gb700) (o := .cells #[.slice A0_0 l0_0.length c0_0, .slice A0_1 l0_1.length c0_1] 60 (0, 0)) (by (with_reducible repeat (first | refine kN ?_ _ | refine kD ?_ | refine kA ?_ _)); exact BK700.out) hb); clear hb hbox hg; have hnb7 := NB700_701.out; have hnc7 := NB701_700.out; have hcz8_0 : w6.cell? ⟨gb700, 0, none⟩ = some (.slice A0_0 l0_0.length c0_0) := (blk_cell BK700.out 0).trans rfl; have hcz8_1 : w6.cell? ⟨gb700, 1, none⟩ = some (.slice A0_1 l0_1.length c0_1) := (blk_cell BK700.out 1).trans rfl; have hfz8_0 := blk_frozen BK700.out 0; have hfz8_1 := blk_frozen BK700.out 1; have hcz9_0 : w6.cell? ⟨gb701, 0, none⟩ = some (.slice A1_0 l1_0.length c1_0) := (blk_cell BK701.out 0).trans rfl; have hcz9_1 : w6.cell? ⟨gb701, 1, none⟩ = some (.slice A1_1 l1_1.length c1_1) := (blk_cell BK701.out 1).trans rfl; have hfz9_0 := blk_frozen BK701.out 0; have hfz9_1 := blk_frozen BK701.out 1) | (go_at_call 86; (with_reducible refine (impl_lcm.calls k (l0_1.length : Int) (l1_1.length : Int) t702 _ A4.out).mono ?_); rintro e w' ⟨rfl, ⟨nd, rfl⟩⟩; (try first | exact ⟨rfl, _, World.drewN_drewN _ _ _⟩ | exact ⟨rfl, _, Eq.trans (World.drewN_drewN _ _ _) (congrArg (World.drewN _) (Nat.add_assoc _ _ _))⟩))))
 go_ret2
 exact ⟨by first | rfl | (simp [errW_none, errW_some] <;> rfl) | (simp [errW_none, errW_some]; exact ⟨rfl, rfl⟩) | (simp [errW_none, errW_some]; exact ⟨rfl, rfl, rfl⟩) | (simp only [← hji3]; first | rfl | (simp [errW_none, errW_some] <;> rfl) | (simp [errW_none, errW_some]; exact ⟨rfl, rfl⟩) | (simp [errW_none, errW_some]; exact ⟨rfl, rfl, rfl⟩)) | (simp [*, errW_none, errW_some] <;> rfl), by repeat (first | (with_reducible first | exact HB.out | apply bA | apply bN | apply b1 | refine bS ?_ GE700.out | refine bS ?_ GE701.out) | exact HB.out)⟩

end Go.Proofs.Ytpkpgdlbgcjloaa.Q

namespace Go.Proofs.Ytpkpgdlbgcjloaa.Q
open Go.RowKit Go.Proofs.YtpkpgdlbgcjloaaW.PrintWords Go.Proofs.YtpkpgdlbgcjloaaW.PrintLast Go.Proofs.YtpkpgdlbgcjloaaW.PrintMore
attribute [local go_sem] max2_int min2_int max_two min_two max_three min_three max_four min_four   -- for this text's walks alone
set_option linter.unusedVariables false
set_option linter.unusedSimpArgs false

end Go.Proofs.Ytpkpgdlbgcjloaa.Q

namespace Go.Proofs.Ytpkpgdlbgcjloaa.Q
open Go.RowKit Go.Proofs.YtpkpgdlbgcjloaaW.PrintWords Go.Proofs.YtpkpgdlbgcjloaaW.PrintLast Go.Proofs.YtpkpgdlbgcjloaaW.PrintMore
attribute [local go_sem] max2_int min2_int max_two min_two max_three min_three max_four min_four   -- for this text's walks alone
set_option linter.unusedVariables false
set_option linter.unusedSimpArgs false
theorem slices_IndexFunc_int_int.goesV_ {P : Program} {ops : Array Oper} {Q : Exit → Act → World → Prop} {oi : Oper} {N : Option Tmp} {a : Act} {w : World} {K : Act → World → Prop} {c : Operand} {g : FuncId} {lb : Array Value} (eg : ∀ args w, (callFunc g args).run P w = .ok (.enter g args) w) {ars : Array Operand} {ts : Array TypeId} (args : Array Value)
  (hw : Region.wanted oi (yielded ops a.tmps) = true) (hN : oi.dst = N) (hop : oi.op = .call { callee := .value c, args := ars, argTypes := ts }) (hc : a.eval c = .func (.func g) #[] lb) (hargs : ars.map a.eval = args)
  (h : Calls P g (args ++ lb) w fun e w' => ∃ v, e = .returned v ∧ K (a.put N v) w') : if Region.wanted oi (yielded ops a.tmps) = true then Oper.wp P oi a w K Q else K (a.put N undef) w := by
 refine call_ g (args ++ lb) hw hN ?_ h
 have he := eg (args ++ lb) w
 unfold execOp
 simp [hop, hc, resolve, Deferred.ofValue, invoke, hargs, he]
end Go.Proofs.Ytpkpgdlbgcjloaa.Q

namespace Go.Proofs.Ytpkpgdlbgcjloaa.Q
open Go.RowKit Go.Proofs.YtpkpgdlbgcjloaaW.PrintWords Go.Proofs.YtpkpgdlbgcjloaaW.PrintLast Go.Proofs.YtpkpgdlbgcjloaaW.PrintMore
attribute [local go_sem] max2_int min2_int max_two min_two max_three min_three max_four min_four   -- for this text's walks alone
set_option linter.unusedVariables false
set_option linter.unusedSimpArgs false

end Go.Proofs.Ytpkpgdlbgcjloaa.Q

namespace Go.Proofs.Ytpkpgdlbgcjloaa.Q
open Go.RowKit Go.Proofs.YtpkpgdlbgcjloaaW.PrintWords Go.Proofs.YtpkpgdlbgcjloaaW.PrintLast Go.Proofs.YtpkpgdlbgcjloaaW.PrintMore
attribute [local go_sem] max2_int min2_int max_two min_two max_three min_three max_four min_four   -- for this text's walks alone
set_option linter.unusedVariables false
set_option linter.unusedSimpArgs false

end Go.Proofs.Ytpkpgdlbgcjloaa.Q

namespace Go.Proofs.Ytpkpgdlbgcjloaa.Q
open Go.RowKit Go.Proofs.YtpkpgdlbgcjloaaW.PrintWords Go.Proofs.YtpkpgdlbgcjloaaW.PrintLast Go.Proofs.YtpkpgdlbgcjloaaW.PrintMore
attribute [local go_sem] max2_int min2_int max_two min_two max_three min_three max_four min_four   -- for this text's walks alone
set_option linter.unusedVariables false
set_option linter.unusedSimpArgs false

end Go.Proofs.Ytpkpgdlbgcjloaa.Q
