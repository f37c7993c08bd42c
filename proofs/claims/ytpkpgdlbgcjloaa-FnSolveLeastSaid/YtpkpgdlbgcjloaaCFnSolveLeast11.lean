/- The law FnSolveLeast holds for all that it draws. -/
import Derived.Test.YtpkpgdlbgcjloaaCFnSolveLeast8
import Derived.Test.YtpkpgdlbgcjloaaCFnSolveLeast10
namespace Go.Proofs.Ytpkpgdlbgcjloaa.Q
open Go.RowKit Go.Proofs.YtpkpgdlbgcjloaaW.PrintWords Go.Proofs.YtpkpgdlbgcjloaaW.PrintLast Go.Proofs.YtpkpgdlbgcjloaaW.PrintMore
attribute [local go_sem] max2_int min2_int max_two min_two max_three min_three max_four min_four   -- for this text's walks alone
set_option linter.unusedVariables false
set_option linter.unusedSimpArgs false
def spec_l1Bit.f (a0 : Bool) : Option (Int) := if a0 = true then (some 1) else (some 0)
set_option maxHeartbeats 8000000 in
set_option maxRecDepth 100000 in
theorem spec_l1Bit.calls (a0 : Bool) (r : Int) (w : World) (h : spec_l1Bit.f a0 = some r) :
  Calls Try.prog 91 #[.bool a0] w fun e w' => e = .returned (.int .i64 r) ∧ Drawn0 w w' := by
 have H : (if a0 = true then (some 1) else (some 0)) = some r := h
 clear h
 by_cases c2 : a0 = true
 ·subst c2
  replace H : (some 1) = some r := by rw [if_pos rfl] at H; exact H
  obtain rfl := Option.some.inj H
  go_enter Try.func91, Try.ntmps91
  go_wp2
  go_ret
  exact ⟨by first | rfl | (simp [*]; done), by repeat (exact Drawn0.refl _)⟩
 ·replace c2 := Bool.eq_false_iff.mpr c2
  subst c2
  replace H : (some 0) = some r := by rw [if_neg (show ¬ (false = true) by decide)] at H; exact H
  obtain rfl := Option.some.inj H
  go_enter Try.func91, Try.ntmps91
  go_wp2
  go_ret
  exact ⟨by first | rfl | (simp [*]; done), by repeat (exact Drawn0.refl _)⟩


mutual
def spec_l1Write.l0 : Nat → List Int → Int → List Bool → List Bool → Option (ByteArray)
 | 0, _, _, _, _ => none
 | k + 1, x3, x4, x505000, x505001 => if x4 < (x505000.length : Int) then (if 0 ≤ x4 then ((spec_l1Bit.f (rdOf false x505000 x4)).bind fun t509 => (if 0 ≤ t509 then (if t509 < 2 then (if x3.length < 140737488355328 then (spec_l1Write.l0 k (x3 ++ [bt (⟨#[48, 49]⟩ : ByteArray) t509]) (wrap64 (x4 + 1)) x505000 x505001) else (none)) else (none)) else (none))) else (none)) else (if x3.length < 140737488355328 then (spec_l1Write.l1 k (x3 ++ [40]) 0 x505000 x505001) else (none))
def spec_l1Write.l1 : Nat → List Int → Int → List Bool → List Bool → Option (ByteArray)
 | 0, _, _, _, _ => none
 | k + 1, x3, x5, x505000, x505001 => if x5 < (x505001.length : Int) then (if 0 ≤ x5 then ((spec_l1Bit.f (rdOf false x505001 x5)).bind fun t517 => (if 0 ≤ t517 then (if t517 < 2 then (if x3.length < 140737488355328 then (spec_l1Write.l1 k (x3 ++ [bt (⟨#[48, 49]⟩ : ByteArray) t517]) (wrap64 (x5 + 1)) x505000 x505001) else (none)) else (none)) else (none))) else (none)) else (if x3.length < 140737488355328 then (some (strOfNums (x3 ++ [41]))) else (none))
end
def spec_l1Write.f (k : Nat) (l0_0 : List Bool) (l0_1 : List Bool) : Option (ByteArray) := spec_l1Write.l0 k (([] : List Int)) 0 l0_0 l0_1
theorem spec_l1Write.mono_l : ∀ k, (∀ y0 y1 y2 y3, LeO (spec_l1Write.l0 k y0 y1 y2 y3) (spec_l1Write.l0 (k + 1) y0 y1 y2 y3)) ∧ (∀ y0 y1 y2 y3, LeO (spec_l1Write.l1 k y0 y1 y2 y3) (spec_l1Write.l1 (k + 1) y0 y1 y2 y3))
 | 0 => ⟨fun _ _ _ _ r h => by simp [spec_l1Write.l0] at h, fun _ _ _ _ r h => by simp [spec_l1Write.l1] at h⟩
 | k + 1 => by
  obtain ⟨ih0, ih1⟩ := spec_l1Write.mono_l k
  refine ⟨?_, ?_⟩
  ·intro y0 y1 y2 y3
   unfold spec_l1Write.l0
   repeat' first | (with_reducible exact ih0 _ _ _ _) | (with_reducible exact ih1 _ _ _ _) | (with_reducible exact LeO.refl _) | (with_reducible refine LeO.ite ?_ ?_) | (with_reducible refine LeO.bind ?_ (fun _ => ?_))
  ·intro y0 y1 y2 y3
   unfold spec_l1Write.l1
   repeat' first | (with_reducible exact ih1 _ _ _ _) | (with_reducible exact LeO.refl _) | (with_reducible refine LeO.ite ?_ ?_) | (with_reducible refine LeO.bind ?_ (fun _ => ?_))
theorem spec_l1Write.mono : ∀ a0 a1 k, LeO (spec_l1Write.f k a0 a1) (spec_l1Write.f (k + 1) a0 a1) := by
 intro a0 a1 k
 obtain ⟨ih0, ih1⟩ := spec_l1Write.mono_l k
 unfold spec_l1Write.f
 repeat' (with_reducible exact ih0 _ _ _ _)
set_option maxHeartbeats 8000000 in
set_option maxRecDepth 100000 in
theorem spec_l1Write.calls (k : Nat) (A0_0 : Option Addr) (c0_0 : Nat) (l0_0 : List Bool) (A0_1 : Option Addr) (c0_1 : Nat) (l0_1 : List Bool) (r : ByteArray) (w : World) (hr0_0 : Kd.C Kd.bool w A0_0 l0_0.length l0_0) (hc0_0 : l0_0.length ≤ c0_0) (hr0_1 : Kd.C Kd.bool w A0_1 l0_1.length l0_1) (hc0_1 : l0_1.length ≤ c0_1) (h : spec_l1Write.f k l0_0 l0_1 = some r) :
  Calls Try.prog 110 #[.agg #[.slice A0_0 l0_0.length c0_0, .slice A0_1 l0_1.length c0_1]] w fun e w' => e = .returned (.string r) ∧ Below w.heap.size w w' := by
 have hu66 := Try.underlying66
 have HR0_0 := aM hr0_0
 have HC0_0 := aM hc0_0
 clear hr0_0 hc0_0
 have HR0_1 := aM hr0_1
 have HC0_1 := aM hc0_1
 clear hr0_1 hc0_1
 have HB := aM (Below.refl w.heap.size w)
 have H : (spec_l1Write.l0 k (([] : List Int)) 0 l0_0 l0_1) = some r := h
 clear h
 obtain ⟨y505, hy505⟩ : ∃ y_ : List Int, y_ = (([] : List Int)) := ⟨_, rfl⟩
 replace H : (spec_l1Write.l0 k y505 0 l0_0 l0_1) = some r := by first | (rw [hy505]; with_reducible exact H)
 have Ny505 := aM hy505
 clear hy505
 have H' := aM H
 clear H
 go_enter Try.func110, Try.ntmps110
 go_wp2_with (first | ((with_reducible refine gate_dst (N := 1) rfl ?_); refine box_event ?hg (N := 1) ?hd (cs := #[.slice A0_0 l0_0.length c0_0, .slice A0_1 l0_1.length c0_1]) (t := 66) ?hr ?_; (case hd => rfl); (case hg => rfl); (case hr => first | (go_simp; done)); intro gb504 hg w2 hbox hb; have BK504 := aM hbox; have GW504 := aM ((by rw [hg]; exact (below_size HB.out) : w.heap.size ≤ gb504)); have GE504 := aM ((by rw [hg]; exact (below_size HB.out) : w.heap.size ≤ gb504)); replace HB := aM (below_step HB.out hb); clear hb hbox hg) | ((with_reducible refine gate_dst (N := 6) rfl ?_); refine Kd.R_lit (Kd.int .u8) _ 5 ?hg (N := 6) ?hd (xs := ([] : List Int)) (inner := []) (ok := fun _ => True) (okp := fun _ => True) ?hr ?hp (fun _ hk => hk) trivial (Below.refl _ _) (Nat.le_refl _) (by simp) ?_; (case hd => rfl); (case hg => rfl); (case hr => first | (go_simp; done)); (case hp => exact (Reps.none _ _)); intro v506 w3 ho4 hb hg_ hnew_; clear hg_ hnew_; (rw [← Ny505.out] at ho4); have HO507 := aM (Kd.R_lower ho4 (below_size HB.out)); replace BK504 := aM (blk_below (g := gb504) (o := .cells #[.slice A0_0 l0_0.length c0_0, .slice A0_1 l0_1.length c0_1] 66 (0, 0)) BK504.out hb); replace HB := aM (below_step HB.out hb); clear hb ho4))
 go_loopg [3, 4] k (fun kq v3 v4 w' => ∃ (x3_1 : List Int) (x4_1 : Int), v4 = .int .i64 x4_1 ∧ Aside0 (spec_l1Write.l0 kq x3_1 x4_1 l0_0 l0_1 = some r) ∧ Aside0 (kq ≤ k) ∧ Aside0 (Kd.R (Kd.int .u8) 5 w' w.heap.size (fun _ => True) v3 x3_1) ∧ Aside0 (w'.heap[gb504]? = some (.cells #[(.slice A0_0 l0_0.length c0_0), (.slice A0_1 l0_1.length c0_1)] 66 (0, 0))) ∧ Aside0 (Below w.heap.size w w'))
 case atStart => exact ⟨(y505), (0), (by rfl), H', ⟨Nat.le_refl _⟩, ⟨by exact HO507.out⟩, ⟨by exact BK504.out⟩, ⟨HB.out⟩⟩
 case round =>
  clear H'
  obtain ⟨x3_1, x4_1, rfl, HA, HK1, HO_3, BK504, HB⟩ := hrel
  cases gk with
  | zero => exact absurd HA.out (by simp [spec_l1Write.l0])
  | succ k1 =>
   have H := HA.out
   clear HA
   simp only [spec_l1Write.l0] at H
   by_cases c5 : x4_1 < (l0_0.length : Int)
   ·rw [if_pos c5] at H
    have c5b0 : decide (x4_1 < (l0_0.length : Int)) = true := decide_eq_true c5
    clear c5
    by_cases c6 : 0 ≤ x4_1
    ·rw [if_pos c6] at H
     have c6b0 : decide (0 ≤ x4_1) = true := decide_eq_true c6
     clear c6
     replace H := Option.bind_eq_some_iff.mp H
     obtain ⟨t509, A70, H⟩ := H
     replace H : (if 0 ≤ t509 then (if t509 < 2 then (if x3_1.length < 140737488355328 then (spec_l1Write.l0 k1 (x3_1 ++ [bt (⟨#[48, 49]⟩ : ByteArray) t509]) (wrap64 (x4_1 + 1)) l0_0 l0_1) else (none)) else (none)) else (none)) = some r := H
     have A7 := aM A70
     clear A70
     by_cases c8 : 0 ≤ t509
     ·rw [if_pos c8] at H
      have c8b0 : decide (0 ≤ t509) = true := decide_eq_true c8
      clear c8
      by_cases c9 : t509 < 2
      ·rw [if_pos c9] at H
       have c9b0 : decide (t509 < 2) = true := decide_eq_true c9
       clear c9
       by_cases c11 : x3_1.length < 140737488355328
       ·rw [if_pos c11] at H
        have LMc11 := aM c11
        clear c11
        obtain ⟨y510, hy510⟩ : ∃ y_ : List Int, y_ = (x3_1 ++ [bt (⟨#[48, 49]⟩ : ByteArray) t509]) := ⟨_, rfl⟩
        replace H : (spec_l1Write.l0 k1 y510 (wrap64 (x4_1 + 1)) l0_0 l0_1) = some r := by first | (rw [hy510]; with_reducible exact H)
        have Ny510 := aM hy510
        clear hy510
        have H' := aM H
        clear H
        have hcz12_0 : wr.cell? ⟨gb504, 0, none⟩ = some (.slice A0_0 l0_0.length c0_0) := (blk_cell BK504.out 0).trans rfl
        have hcz12_1 : wr.cell? ⟨gb504, 1, none⟩ = some (.slice A0_1 l0_1.length c0_1) := (blk_cell BK504.out 1).trans rfl
        have hfz12_0 := blk_frozen BK504.out 0
        have hfz12_1 := blk_frozen BK504.out 1
        have p508 : 0 ≤ (x4_1 : Int) := of_decide_eq_true (by (with_reducible assumption))
        have q508 : x4_1 < (l0_0.length : Int) := of_decide_eq_true (by (with_reducible assumption))
        obtain ⟨ad508, e508, hx508_0⟩ := Kd.at_bool HR0_0.out x4_1 p508 q508
        cases e508
        replace hx508_0 := (HB.out.cell (World.block_lt_of_cell? w _ hx508_0)).trans hx508_0
        replace p508 := eq_true p508
        replace q508 := eq_true q508
        go_wp2_with (first | ((with_reducible refine gate_callee (f := 91) rfl ?_); refine goesL_ (some 20) rfl rfl Try.func91 (by kernel_rfl) rfl #[.bool (rdOf false l0_0 x4_1)] rfl (by (try simp only [List.map_toArray, List.map_cons, List.map_nil]); rfl) ?_; (with_reducible refine (spec_l1Bit.calls (rdOf false l0_0 x4_1) t509 _ A7.out).mono ?_); rintro e w' ⟨rfl, ⟨nd, rfl⟩⟩; refine ⟨_, rfl, ?_⟩; have p10 : 0 ≤ (t509 : Int) := of_decide_eq_true (by (with_reducible assumption)); have q10 : t509 < (2 : Int) := of_decide_eq_true (by (with_reducible assumption)); have hx10 := bt_at (⟨#[48, 49]⟩ : ByteArray) t509; replace p10 := eq_true p10; replace q10 := eq_true q10) | ((with_reducible refine gate_builtin (b := .append) (xs := #[.tmp 14, .tmp 22]) rfl ?_); at_builtin; refine Kd.R_append (Kd.int .u8) (w0 := w) w.heap.size rfl (.tmp 14) (.tmp 22) 22 5 (.int .u8 0) 1 rfl Try.underlying22 info5 rfl (by decide) (by omega) u3 x3_1 (bt (⟨#[48, 49]⟩ : ByteArray) t509) [.int .u8 (bt (⟨#[48, 49]⟩ : ByteArray) t509)] (fun _ => True) (fun _ => False) rfl rfl ?aP (fun _ hk => hk.elim) ?aF ?aO ?aB ?aS ?aL ?_; (case aP => exact rfl); (case aB => exact (by repeat (first | (with_reducible first | exact HB.out | apply bN)))); (case aF => exact (fun _ _ => trivial)); (case aO => exact (by (with_reducible repeat (apply rN)); exact HO_3.out)); (case aS => exact (below_size (by repeat (first | (with_reducible first | exact HB.out | apply bN))))); (case aL => have := LMc11.out; omega); intro v511 w13 ho hb hg hat; rw [← Ny510.out] at ho; replace BK504 := aM (blk_grown (g := gb504) (o := .cells #[.slice (some ad508) l0_0.length c0_0, .slice A0_1 l0_1.length c0_1] 66 (0, 0)) (by (with_reducible repeat (refine kN ?_ _)); exact BK504.out) hg (Kd.R_ne HO_3.out BK504.out (by decide))); replace HB := aM hb; have HO512 := aM ho; clear HO_3; clear ho hb hg hat))
        go_roundg k1
        case measure => have := HK1.out; omega
        case rel => exact ⟨(y510), (wrap64 (x4_1 + 1)), (by rfl), H', ⟨by have := HK1.out; omega⟩, ⟨by exact HO512.out⟩, ⟨by exact BK504.out⟩, ⟨HB.out⟩⟩
       ·rw [if_neg c11] at H
        exact absurd H (by simp)
      ·rw [if_neg c9] at H
       exact absurd H (by simp)
     ·rw [if_neg c8] at H
      exact absurd H (by simp)
    ·rw [if_neg c6] at H
     exact absurd H (by simp)
   ·rw [if_neg c5] at H
    have c5b0 : decide (x4_1 < (l0_0.length : Int)) = false := decide_eq_false c5
    clear c5
    by_cases c14 : x3_1.length < 140737488355328
    ·rw [if_pos c14] at H
     have LMc14 := aM c14
     clear c14
     obtain ⟨y513, hy513⟩ : ∃ y_ : List Int, y_ = (x3_1 ++ [40]) := ⟨_, rfl⟩
     replace H : (spec_l1Write.l1 k1 y513 0 l0_0 l0_1) = some r := by first | (rw [hy513]; with_reducible exact H)
     have Ny513 := aM hy513
     clear hy513
     have H' := aM H
     clear H
     have hcz15_0 : wr.cell? ⟨gb504, 0, none⟩ = some (.slice A0_0 l0_0.length c0_0) := (blk_cell BK504.out 0).trans rfl
     have hcz15_1 : wr.cell? ⟨gb504, 1, none⟩ = some (.slice A0_1 l0_1.length c0_1) := (blk_cell BK504.out 1).trans rfl
     have hfz15_0 := blk_frozen BK504.out 0
     have hfz15_1 := blk_frozen BK504.out 1
     go_wp2_with (first | ((with_reducible refine gate_builtin (b := .append) (xs := #[.tmp 24, .tmp 25]) rfl ?_); at_builtin; refine Kd.R_append (Kd.int .u8) (w0 := w) w.heap.size rfl (.tmp 24) (.tmp 25) 22 5 (.int .u8 0) 1 rfl Try.underlying22 info5 rfl (by decide) (by omega) u3 x3_1 40 [.int .u8 40] (fun _ => True) (fun _ => False) rfl rfl ?aP (fun _ hk => hk.elim) ?aF ?aO ?aB ?aS ?aL ?_; (case aP => exact rfl); (case aB => exact HB.out); (case aF => exact (fun _ _ => trivial)); (case aO => exact HO_3.out); (case aS => exact (below_size HB.out)); (case aL => have := LMc14.out; omega); intro v514 w16 ho hb hg hat; rw [← Ny513.out] at ho; replace BK504 := aM (blk_grown (g := gb504) (o := .cells #[.slice A0_0 l0_0.length c0_0, .slice A0_1 l0_1.length c0_1] 66 (0, 0)) BK504.out hg (Kd.R_ne HO_3.out BK504.out (by decide))); replace HB := aM hb; have HO515 := aM ho; clear HO_3; clear ho hb hg hat))
     go_loopg [3, 5] k1 (fun kq v3 v5 w' => ∃ (x3_2 : List Int) (x5_2 : Int), v5 = .int .i64 x5_2 ∧ Aside0 (spec_l1Write.l1 kq x3_2 x5_2 l0_0 l0_1 = some r) ∧ Aside0 (kq ≤ k1) ∧ Aside0 (Kd.R (Kd.int .u8) 5 w' w.heap.size (fun _ => True) v3 x3_2) ∧ Aside0 (w'.heap[gb504]? = some (.cells #[(.slice A0_0 l0_0.length c0_0), (.slice A0_1 l0_1.length c0_1)] 66 (0, 0))) ∧ Aside0 (Below w.heap.size w w'))
     case atStart => exact ⟨(y513), (0), (by rfl), H', ⟨Nat.le_refl _⟩, ⟨by exact HO515.out⟩, ⟨by exact BK504.out⟩, ⟨HB.out⟩⟩
     case round =>
      clear H'
      try clear c5b0
      try clear hcz15_0
      try clear hcz15_1
      try clear hfz15_0
      try clear hfz15_1
      obtain ⟨x3_2, x5_2, rfl, HA, HK2, HO_3, BK504, HB⟩ := hrel
      cases gk with
      | zero => exact absurd HA.out (by simp [spec_l1Write.l1])
      | succ k2 =>
       have H := HA.out
       clear HA
       simp only [spec_l1Write.l1] at H
       by_cases c17 : x5_2 < (l0_1.length : Int)
       ·rw [if_pos c17] at H
        have c17b0 : decide (x5_2 < (l0_1.length : Int)) = true := decide_eq_true c17
        clear c17
        by_cases c18 : 0 ≤ x5_2
        ·rw [if_pos c18] at H
         have c18b0 : decide (0 ≤ x5_2) = true := decide_eq_true c18
         clear c18
         replace H := Option.bind_eq_some_iff.mp H
         obtain ⟨t517, A190, H⟩ := H
         replace H : (if 0 ≤ t517 then (if t517 < 2 then (if x3_2.length < 140737488355328 then (spec_l1Write.l1 k2 (x3_2 ++ [bt (⟨#[48, 49]⟩ : ByteArray) t517]) (wrap64 (x5_2 + 1)) l0_0 l0_1) else (none)) else (none)) else (none)) = some r := H
         have A19 := aM A190
         clear A190
         by_cases c20 : 0 ≤ t517
         ·rw [if_pos c20] at H
          have c20b0 : decide (0 ≤ t517) = true := decide_eq_true c20
          clear c20
          by_cases c21 : t517 < 2
          ·rw [if_pos c21] at H
           have c21b0 : decide (t517 < 2) = true := decide_eq_true c21
           clear c21
           by_cases c23 : x3_2.length < 140737488355328
           ·rw [if_pos c23] at H
            have LMc23 := aM c23
            clear c23
            obtain ⟨y518, hy518⟩ : ∃ y_ : List Int, y_ = (x3_2 ++ [bt (⟨#[48, 49]⟩ : ByteArray) t517]) := ⟨_, rfl⟩
            replace H : (spec_l1Write.l1 k2 y518 (wrap64 (x5_2 + 1)) l0_0 l0_1) = some r := by first | (rw [hy518]; with_reducible exact H)
            have Ny518 := aM hy518
            clear hy518
            have H' := aM H
            clear H
            have hcz24_0 : wr.cell? ⟨gb504, 0, none⟩ = some (.slice A0_0 l0_0.length c0_0) := (blk_cell BK504.out 0).trans rfl
            have hcz24_1 : wr.cell? ⟨gb504, 1, none⟩ = some (.slice A0_1 l0_1.length c0_1) := (blk_cell BK504.out 1).trans rfl
            have hfz24_0 := blk_frozen BK504.out 0
            have hfz24_1 := blk_frozen BK504.out 1
            have p516 : 0 ≤ (x5_2 : Int) := of_decide_eq_true (by (with_reducible assumption))
            have q516 : x5_2 < (l0_1.length : Int) := of_decide_eq_true (by (with_reducible assumption))
            obtain ⟨ad516, e516, hx516_0⟩ := Kd.at_bool HR0_1.out x5_2 p516 q516
            cases e516
            replace hx516_0 := (HB.out.cell (World.block_lt_of_cell? w _ hx516_0)).trans hx516_0
            replace p516 := eq_true p516
            replace q516 := eq_true q516
            go_wp2_with (first | ((with_reducible refine gate_callee (f := 91) rfl ?_); refine goesL_ (some 40) rfl rfl Try.func91 (by kernel_rfl) rfl #[.bool (rdOf false l0_1 x5_2)] rfl (by (try simp only [List.map_toArray, List.map_cons, List.map_nil]); rfl) ?_; (with_reducible refine (spec_l1Bit.calls (rdOf false l0_1 x5_2) t517 _ A19.out).mono ?_); rintro e w' ⟨rfl, ⟨nd, rfl⟩⟩; refine ⟨_, rfl, ?_⟩; have p22 : 0 ≤ (t517 : Int) := of_decide_eq_true (by (with_reducible assumption)); have q22 : t517 < (2 : Int) := of_decide_eq_true (by (with_reducible assumption)); have hx22 := bt_at (⟨#[48, 49]⟩ : ByteArray) t517; replace p22 := eq_true p22; replace q22 := eq_true q22) | ((with_reducible refine gate_builtin (b := .append) (xs := #[.tmp 34, .tmp 42]) rfl ?_); at_builtin; refine Kd.R_append (Kd.int .u8) (w0 := w) w.heap.size rfl (.tmp 34) (.tmp 42) 22 5 (.int .u8 0) 1 rfl Try.underlying22 info5 rfl (by decide) (by omega) u3 x3_2 (bt (⟨#[48, 49]⟩ : ByteArray) t517) [.int .u8 (bt (⟨#[48, 49]⟩ : ByteArray) t517)] (fun _ => True) (fun _ => False) rfl rfl ?aP (fun _ hk => hk.elim) ?aF ?aO ?aB ?aS ?aL ?_; (case aP => exact rfl); (case aB => exact (by repeat (first | (with_reducible first | exact HB.out | apply bN)))); (case aF => exact (fun _ _ => trivial)); (case aO => exact (by (with_reducible repeat (apply rN)); exact HO_3.out)); (case aS => exact (below_size (by repeat (first | (with_reducible first | exact HB.out | apply bN))))); (case aL => have := LMc23.out; omega); intro v519 w25 ho hb hg hat; rw [← Ny518.out] at ho; replace BK504 := aM (blk_grown (g := gb504) (o := .cells #[.slice A0_0 l0_0.length c0_0, .slice (some ad516) l0_1.length c0_1] 66 (0, 0)) (by (with_reducible repeat (refine kN ?_ _)); exact BK504.out) hg (Kd.R_ne HO_3.out BK504.out (by decide))); replace HB := aM hb; have HO520 := aM ho; clear HO_3; clear ho hb hg hat))
            go_roundg k2
            case measure => have := HK1.out; have := HK2.out; omega
            case rel => exact ⟨(y518), (wrap64 (x5_2 + 1)), (by rfl), H', ⟨by have := HK1.out; have := HK2.out; omega⟩, ⟨by exact HO520.out⟩, ⟨by exact BK504.out⟩, ⟨HB.out⟩⟩
           ·rw [if_neg c23] at H
            exact absurd H (by simp)
          ·rw [if_neg c21] at H
           exact absurd H (by simp)
         ·rw [if_neg c20] at H
          exact absurd H (by simp)
        ·rw [if_neg c18] at H
         exact absurd H (by simp)
       ·rw [if_neg c17] at H
        have c17b0 : decide (x5_2 < (l0_1.length : Int)) = false := decide_eq_false c17
        clear c17
        by_cases c26 : x3_2.length < 140737488355328
        ·rw [if_pos c26] at H
         have LMc26 := aM c26
         clear c26
         obtain ⟨y521, hy521⟩ : ∃ y_ : List Int, y_ = (x3_2 ++ [41]) := ⟨_, rfl⟩
         replace H : (some (strOfNums y521)) = some r := by first | (rw [hy521]; with_reducible exact H)
         have Ny521 := aM hy521
         clear hy521
         obtain rfl := Option.some.inj H
         have hcz27_0 : wr.cell? ⟨gb504, 0, none⟩ = some (.slice A0_0 l0_0.length c0_0) := (blk_cell BK504.out 0).trans rfl
         have hcz27_1 : wr.cell? ⟨gb504, 1, none⟩ = some (.slice A0_1 l0_1.length c0_1) := (blk_cell BK504.out 1).trans rfl
         have hfz27_0 := blk_frozen BK504.out 0
         have hfz27_1 := blk_frozen BK504.out 1
         go_wp2_with (first | ((with_reducible refine gate_builtin (b := .append) (xs := #[.tmp 44, .tmp 45]) rfl ?_); at_builtin; refine Kd.R_append (Kd.int .u8) (w0 := w) w.heap.size rfl (.tmp 44) (.tmp 45) 22 5 (.int .u8 0) 1 rfl Try.underlying22 info5 rfl (by decide) (by omega) u3 x3_2 41 [.int .u8 41] (fun _ => True) (fun _ => False) rfl rfl ?aP (fun _ hk => hk.elim) ?aF ?aO ?aB ?aS ?aL ?_; (case aP => exact rfl); (case aB => exact HB.out); (case aF => exact (fun _ _ => trivial)); (case aO => exact HO_3.out); (case aS => exact (below_size HB.out)); (case aL => have := LMc26.out; omega); intro v522 w28 ho hb hg hat; rw [← Ny521.out] at ho; replace BK504 := aM (blk_grown (g := gb504) (o := .cells #[.slice A0_0 l0_0.length c0_0, .slice A0_1 l0_1.length c0_1] 66 (0, 0)) BK504.out hg (Kd.R_ne HO_3.out BK504.out (by decide))); replace HB := aM hb; have HO523 := aM ho; clear HO_3; clear ho hb hg hat; have hcv29 := own_string (P := Try.prog) Try.underlying22 Try.underlying5 Try.underlying9 (Kd.own_of_R HO523.out)))
         go_ret
         exact ⟨by first | rfl | (simp [*, errW_none, errW_some] <;> rfl), HB.out⟩
        ·rw [if_neg c26] at H
         exact absurd H (by simp)
    ·rw [if_neg c14] at H
     exact absurd H (by simp)


def spec_l1Done.f (k : Nat) (l0_0 : List Bool) (l0_1 : List Bool) : Option (ByteArray × Bool) := (spec_l1Less.f k l0_0 l0_1).bind fun bt525 => (if (bt525.1.length : Int) > 60 then (some ((⟨#[]⟩ : ByteArray), false)) else (if (bt525.2.length : Int) > 60 then (some ((⟨#[]⟩ : ByteArray), false)) else ((spec_l1Write.f k bt525.1 bt525.2).bind fun t532 => (some (t532, true)))))
theorem spec_l1Done.mono : ∀ a0 a1 k, LeO (spec_l1Done.f k a0 a1) (spec_l1Done.f (k + 1) a0 a1) := by
 intro a0 a1 k
 unfold spec_l1Done.f
 repeat' first | (with_reducible exact spec_l1Less.mono _ _ _) | (with_reducible exact spec_l1Write.mono _ _ _) | (with_reducible exact LeO.refl _) | (with_reducible refine LeO.ite ?_ ?_) | (with_reducible refine LeO.bind ?_ (fun _ => ?_))
set_option maxHeartbeats 8000000 in
set_option maxRecDepth 100000 in
theorem spec_l1Done.calls (k : Nat) (A0_0 : Option Addr) (c0_0 : Nat) (l0_0 : List Bool) (A0_1 : Option Addr) (c0_1 : Nat) (l0_1 : List Bool) (r1 : ByteArray) (r2 : Bool) (w : World) (hr0_0 : Kd.C Kd.bool w A0_0 l0_0.length l0_0) (hc0_0 : l0_0.length ≤ c0_0) (hr0_1 : Kd.C Kd.bool w A0_1 l0_1.length l0_1) (hc0_1 : l0_1.length ≤ c0_1) (h : spec_l1Done.f k l0_0 l0_1 = some (r1, r2)) :
  Calls Try.prog 75 #[.agg #[.slice A0_0 l0_0.length c0_0, .slice A0_1 l0_1.length c0_1]] w fun e w' => e = .returned (.tuple #[.string r1, .bool r2]) ∧ Below w.heap.size w w' := by
 have hu66 := Try.underlying66
 have HR0_0 := aM hr0_0
 have HC0_0 := aM hc0_0
 clear hr0_0 hc0_0
 have HR0_1 := aM hr0_1
 have HC0_1 := aM hc0_1
 clear hr0_1 hc0_1
 have HB := aM (Below.refl w.heap.size w)
 have H : ((spec_l1Less.f k l0_0 l0_1).bind fun bt525 => (if (bt525.1.length : Int) > 60 then (some ((⟨#[]⟩ : ByteArray), false)) else (if (bt525.2.length : Int) > 60 then (some ((⟨#[]⟩ : ByteArray), false)) else ((spec_l1Write.f k bt525.1 bt525.2).bind fun t532 => (some (t532, true)))))) = some (r1, r2) := h
 clear h
 replace H := Option.bind_eq_some_iff.mp H
 obtain ⟨⟨t525, t528⟩, A20, H⟩ := H
 replace H : (if (t525.length : Int) > 60 then (some ((⟨#[]⟩ : ByteArray), false)) else (if (t528.length : Int) > 60 then (some ((⟨#[]⟩ : ByteArray), false)) else ((spec_l1Write.f k t525 t528).bind fun t532 => (some (t532, true))))) = some (r1, r2) := H
 have A2 := aM A20
 clear A20
 by_cases c3 : (t525.length : Int) > 60
 ·rw [if_pos c3] at H
  have c3b0 : decide (60 < (t525.length : Int)) = true := decide_eq_true c3
  have c3b1 : decide (60 < t525.length) = true := decide_eq_true (by omega)
  clear c3
  simp only [Option.some.injEq, Prod.mk.injEq] at H
  obtain ⟨rfl, rfl⟩ := H
  go_enter Try.func75, Try.ntmps75
  go_wp2_with (first | ((with_reducible refine gate_dst (N := 1) rfl ?_); (try (refine gate_guard (by rfl) ?_; dsimp only)); refine box_event ?hg (N := 1) ?hd (cs := #[.slice A0_0 l0_0.length c0_0, .slice A0_1 l0_1.length c0_1]) (t := 66) ?hr ?_; (case hd => rfl); (case hg => rfl); (case hr => first | (go_simp; done)); intro gb524 hg w4 hbox hb; have BK524 := aM hbox; have GW524 := aM ((by rw [hg]; exact (below_size HB.out) : w.heap.size ≤ gb524)); have GE524 := aM ((by rw [hg]; exact (below_size HB.out) : w.heap.size ≤ gb524)); replace HB := aM (below_step HB.out hb); clear hb hbox hg; have hcz5_0 : w4.cell? ⟨gb524, 0, none⟩ = some (.slice A0_0 l0_0.length c0_0) := (blk_cell BK524.out 0).trans rfl; have hcz5_1 : w4.cell? ⟨gb524, 1, none⟩ = some (.slice A0_1 l0_1.length c0_1) := (blk_cell BK524.out 1).trans rfl; have hfz5_0 := blk_frozen BK524.out 0; have hfz5_1 := blk_frozen BK524.out 1) | ((with_reducible refine gate_callee (f := 90) rfl ?_); refine goesL_ (some 6) rfl rfl Try.func90 (by kernel_rfl) rfl #[.agg #[.slice A0_0 l0_0.length c0_0, .slice A0_1 l0_1.length c0_1]] rfl (by (try simp only [List.map_toArray, List.map_cons, List.map_nil]); rfl) ?_; (with_reducible refine (spec_l1Less.calls k (fun k_ => k_ < w.heap.size) _ _ l0_0 (fun k_ => k_ < w.heap.size) _ _ l0_1 t525 t528 _ ?side1 ?side2 A2.out).mono ?_); (case side1 => exact Kd.V_mk HC0_0.out (Kd.F_below (Kd.C_F Kd.heap_bool HR0_0.out) HB.out)); (case side2 => exact Kd.V_mk HC0_1.out (Kd.F_below (Kd.C_F Kd.heap_bool HR0_1.out) HB.out)); rintro e w6 ⟨v526, v529, rfl, ho0, ho1, hb⟩; refine ⟨_, rfl, ?_⟩; have HO527 := aM (Kd.V_lower (Kd.V_mono (ok' := fun k_ => k_ ≠ gb524) ho0 (fun k_ hk_ => Or.elim hk_ (fun hs_ => Or.elim hs_ (fun hs_ => fun e_ => Nat.not_le.2 hs_ (by rw [e_]; exact GW524.out)) (fun hs_ => fun e_ => Nat.not_le.2 hs_ (by rw [e_]; exact GW524.out))) (fun hn_ => (Kd.freshB (g := gb524) (o := .cells #[.slice A0_0 l0_0.length c0_0, .slice A0_1 l0_1.length c0_1] 66 (0, 0)) BK524.out k_ hn_)))) (below_size HB.out)); have HO530 := aM (Kd.V_lower (Kd.V_mono (ok' := fun k_ => k_ ≠ gb524) ho1 (fun k_ hk_ => Or.elim hk_ (fun hs_ => Or.elim hs_ (fun hs_ => fun e_ => Nat.not_le.2 hs_ (by rw [e_]; exact GW524.out)) (fun hs_ => fun e_ => Nat.not_le.2 hs_ (by rw [e_]; exact GW524.out))) (fun hn_ => (Kd.freshB (g := gb524) (o := .cells #[.slice A0_0 l0_0.length c0_0, .slice A0_1 l0_1.length c0_1] 66 (0, 0)) BK524.out k_ hn_)))) (below_size HB.out)); replace BK524 := aM (blk_below (g := gb524) (o := .cells #[.slice A0_0 l0_0.length c0_0, .slice A0_1 l0_1.length c0_1] 66 (0, 0)) BK524.out hb); replace HB := aM (below_step HB.out hb); (try clear hb); (try clear ho0); (try clear ho1)) | ((with_reducible refine gate_dst (N := 4) rfl ?_); (try (refine gate_guard (by rfl) ?_; dsimp only)); refine box_event ?hg (N := 4) ?hd (cs := #[.slice none 0 0, .slice none 0 0]) (t := 66) ?hr ?_; (case hd => rfl); (case hg => rfl); (case hr => first | (go_simp; done)); intro gb531 hg w7 hbox hb; replace HO527 := aM (Kd.V_below (Kd.V_elderB HO527.out gb531 (Nat.le_of_eq hg.symm)) hb); replace HO530 := aM (Kd.V_below (Kd.V_elderB HO530.out gb531 (Nat.le_of_eq hg.symm)) hb); have BK531 := aM hbox; have GW531 := aM ((by rw [hg]; exact (below_size HB.out) : w.heap.size ≤ gb531)); have GE531 := aM ((by rw [hg]; exact (below_size HB.out) : w.heap.size ≤ gb531)); replace HB := aM (below_step HB.out hb); have NB524_531 := aM ((by rw [hg]; exact Nat.ne_of_lt (blk_lt (g := gb524) (o := .cells #[.slice A0_0 l0_0.length c0_0, .slice A0_1 l0_1.length c0_1] 66 (0, 0)) BK524.out) : gb524 ≠ gb531)); have NB531_524 := aM ((by rw [hg]; exact Nat.ne_of_gt (blk_lt (g := gb524) (o := .cells #[.slice A0_0 l0_0.length c0_0, .slice A0_1 l0_1.length c0_1] 66 (0, 0)) BK524.out) : gb531 ≠ gb524)); replace BK524 := aM (blk_below (g := gb524) (o := .cells #[.slice A0_0 l0_0.length c0_0, .slice A0_1 l0_1.length c0_1] 66 (0, 0)) BK524.out hb); clear hb hbox hg; obtain ⟨Ao8, co8, eo8⟩ := Kd.V_slice HO527.out; subst eo8; have hnb9 := NB531_524.out; have hnc9 := NB524_531.out; have hcz10_0 : w7.cell? ⟨gb531, 0, none⟩ = some (.slice none 0 0) := (blk_cell BK531.out 0).trans rfl; have hcz10_1 : w7.cell? ⟨gb531, 1, none⟩ = some (.slice none 0 0) := (blk_cell BK531.out 1).trans rfl; have hfz10_0 := blk_frozen BK531.out 0; have hfz10_1 := blk_frozen BK531.out 1; obtain ⟨Ao11, co11, eo11⟩ := Kd.V_slice HO530.out; subst eo11))
  go_ret2
  exact ⟨by first | rfl | (simp [*, errW_none, errW_some] <;> rfl), by repeat (first | (with_reducible first | exact HB.out | refine bS ?_ GE531.out))⟩
 ·rw [if_neg c3] at H
  have c3b0 : decide (60 < (t525.length : Int)) = false := decide_eq_false c3
  have c3b1 : decide (60 < t525.length) = false := decide_eq_false (by omega)
  clear c3
  by_cases c12 : (t528.length : Int) > 60
  ·rw [if_pos c12] at H
   have c12b0 : decide (60 < (t528.length : Int)) = true := decide_eq_true c12
   have c12b1 : decide (60 < t528.length) = true := decide_eq_true (by omega)
   clear c12
   simp only [Option.some.injEq, Prod.mk.injEq] at H
   obtain ⟨rfl, rfl⟩ := H
   go_enter Try.func75, Try.ntmps75
   go_wp2_with (first | ((with_reducible refine gate_dst (N := 1) rfl ?_); (try (refine gate_guard (by rfl) ?_; dsimp only)); refine box_event ?hg (N := 1) ?hd (cs := #[.slice A0_0 l0_0.length c0_0, .slice A0_1 l0_1.length c0_1]) (t := 66) ?hr ?_; (case hd => rfl); (case hg => rfl); (case hr => first | (go_simp; done)); intro gb524 hg w13 hbox hb; have BK524 := aM hbox; have GW524 := aM ((by rw [hg]; exact (below_size HB.out) : w.heap.size ≤ gb524)); have GE524 := aM ((by rw [hg]; exact (below_size HB.out) : w.heap.size ≤ gb524)); replace HB := aM (below_step HB.out hb); clear hb hbox hg; have hcz14_0 : w13.cell? ⟨gb524, 0, none⟩ = some (.slice A0_0 l0_0.length c0_0) := (blk_cell BK524.out 0).trans rfl; have hcz14_1 : w13.cell? ⟨gb524, 1, none⟩ = some (.slice A0_1 l0_1.length c0_1) := (blk_cell BK524.out 1).trans rfl; have hfz14_0 := blk_frozen BK524.out 0; have hfz14_1 := blk_frozen BK524.out 1) | ((with_reducible refine gate_callee (f := 90) rfl ?_); refine goesL_ (some 6) rfl rfl Try.func90 (by kernel_rfl) rfl #[.agg #[.slice A0_0 l0_0.length c0_0, .slice A0_1 l0_1.length c0_1]] rfl (by (try simp only [List.map_toArray, List.map_cons, List.map_nil]); rfl) ?_; (with_reducible refine (spec_l1Less.calls k (fun k_ => k_ < w.heap.size) _ _ l0_0 (fun k_ => k_ < w.heap.size) _ _ l0_1 t525 t528 _ ?side1 ?side2 A2.out).mono ?_); (case side1 => exact Kd.V_mk HC0_0.out (Kd.F_below (Kd.C_F Kd.heap_bool HR0_0.out) HB.out)); (case side2 => exact Kd.V_mk HC0_1.out (Kd.F_below (Kd.C_F Kd.heap_bool HR0_1.out) HB.out)); rintro e w15 ⟨v526, v529, rfl, ho0, ho1, hb⟩; refine ⟨_, rfl, ?_⟩; have HO527 := aM (Kd.V_lower (Kd.V_mono (ok' := fun k_ => k_ ≠ gb524) ho0 (fun k_ hk_ => Or.elim hk_ (fun hs_ => Or.elim hs_ (fun hs_ => fun e_ => Nat.not_le.2 hs_ (by rw [e_]; exact GW524.out)) (fun hs_ => fun e_ => Nat.not_le.2 hs_ (by rw [e_]; exact GW524.out))) (fun hn_ => (Kd.freshB (g := gb524) (o := .cells #[.slice A0_0 l0_0.length c0_0, .slice A0_1 l0_1.length c0_1] 66 (0, 0)) BK524.out k_ hn_)))) (below_size HB.out)); have HO530 := aM (Kd.V_lower (Kd.V_mono (ok' := fun k_ => k_ ≠ gb524) ho1 (fun k_ hk_ => Or.elim hk_ (fun hs_ => Or.elim hs_ (fun hs_ => fun e_ => Nat.not_le.2 hs_ (by rw [e_]; exact GW524.out)) (fun hs_ => fun e_ => Nat.not_le.2 hs_ (by rw [e_]; exact GW524.out))) (fun hn_ => (Kd.freshB (g := gb524) (o := .cells #[.slice A0_0 l0_0.length c0_0, .slice A0_1 l0_1.length c0_1] 66 (0, 0)) BK524.out k_ hn_)))) (below_size HB.out)); replace BK524 := aM (blk_below (g := gb524) (o := .cells #[.slice A0_0 l0_0.length c0_0, .slice A0_1 l0_1.length c0_1] 66 (0, 0)) BK524.out hb); replace HB := aM (below_step HB.out hb); (try clear hb); (try clear ho0); (try clear ho1)) | ((with_reducible refine gate_dst (N := 4) rfl ?_); (try (refine gate_guard (by rfl) ?_; dsimp only)); refine box_event ?hg (N := 4) ?hd (cs := #[.slice none 0 0, .slice none 0 0]) (t := 66) ?hr ?_; (case hd => rfl); (case hg => rfl); (case hr => first | (go_simp; done)); intro gb531 hg w16 hbox hb; replace HO527 := aM (Kd.V_below (Kd.V_elderB HO527.out gb531 (Nat.le_of_eq hg.symm)) hb); replace HO530 := aM (Kd.V_below (Kd.V_elderB HO530.out gb531 (Nat.le_of_eq hg.symm)) hb); have BK531 := aM hbox; have GW531 := aM ((by rw [hg]; exact (below_size HB.out) : w.heap.size ≤ gb531)); have GE531 := aM ((by rw [hg]; exact (below_size HB.out) : w.heap.size ≤ gb531)); replace HB := aM (below_step HB.out hb); have NB524_531 := aM ((by rw [hg]; exact Nat.ne_of_lt (blk_lt (g := gb524) (o := .cells #[.slice A0_0 l0_0.length c0_0, .slice A0_1 l0_1.length c0_1] 66 (0, 0)) BK524.out) : gb524 ≠ gb531)); have NB531_524 := aM ((by rw [hg]; exact Nat.ne_of_gt (blk_lt (g := gb524) (o := .cells #[.slice A0_0 l0_0.length c0_0, .slice A0_1 l0_1.length c0_1] 66 (0, 0)) BK524.out) : gb531 ≠ gb524)); replace BK524 := aM (blk_below (g := gb524) (o := .cells #[.slice A0_0 l0_0.length c0_0, .slice A0_1 l0_1.length c0_1] 66 (0, 0)) BK524.out hb); clear hb hbox hg; obtain ⟨Ao17, co17, eo17⟩ := Kd.V_slice HO527.out; subst eo17; have hnb18 := NB531_524.out; have hnc18 := NB524_531.out; have hcz19_0 : w16.cell? ⟨gb531, 0, none⟩ = some (.slice none 0 0) := (blk_cell BK531.out 0).trans rfl; have hcz19_1 : w16.cell? ⟨gb531, 1, none⟩ = some (.slice none 0 0) := (blk_cell BK531.out 1).trans rfl; have hfz19_0 := blk_frozen BK531.out 0; have hfz19_1 := blk_frozen BK531.out 1; obtain ⟨Ao20, co20, eo20⟩ := Kd.V_slice HO530.out; subst eo20))
   go_ret2
   exact ⟨by first | rfl | (simp [*, errW_none, errW_some] <;> rfl), by repeat (first | (with_reducible first | exact HB.out | refine bS ?_ GE531.out))⟩
  ·rw [if_neg c12] at H
   have c12b0 : decide (60 < (t528.length : Int)) = false := decide_eq_false c12
   have c12b1 : decide (60 < t528.length) = false := decide_eq_false (by omega)
   clear c12
   replace H := Option.bind_eq_some_iff.mp H
   obtain ⟨t532, A210, H⟩ := H
   replace H : (some (t532, true)) = some (r1, r2) := H
   have A21 := aM A210
   clear A210
   simp only [Option.some.injEq, Prod.mk.injEq] at H
   obtain ⟨rfl, rfl⟩ := H
   go_enter Try.func75, Try.ntmps75
   go_wp2_with (first | ((with_reducible refine gate_dst (N := 1) rfl ?_); (try (refine gate_guard (by rfl) ?_; dsimp only)); refine box_event ?hg (N := 1) ?hd (cs := #[.slice A0_0 l0_0.length c0_0, .slice A0_1 l0_1.length c0_1]) (t := 66) ?hr ?_; (case hd => rfl); (case hg => rfl); (case hr => first | (go_simp; done)); intro gb524 hg w22 hbox hb; have BK524 := aM hbox; have GW524 := aM ((by rw [hg]; exact (below_size HB.out) : w.heap.size ≤ gb524)); have GE524 := aM ((by rw [hg]; exact (below_size HB.out) : w.heap.size ≤ gb524)); replace HB := aM (below_step HB.out hb); clear hb hbox hg; have hcz23_0 : w22.cell? ⟨gb524, 0, none⟩ = some (.slice A0_0 l0_0.length c0_0) := (blk_cell BK524.out 0).trans rfl; have hcz23_1 : w22.cell? ⟨gb524, 1, none⟩ = some (.slice A0_1 l0_1.length c0_1) := (blk_cell BK524.out 1).trans rfl; have hfz23_0 := blk_frozen BK524.out 0; have hfz23_1 := blk_frozen BK524.out 1) | ((with_reducible refine gate_callee (f := 90) rfl ?_); refine goesL_ (some 6) rfl rfl Try.func90 (by kernel_rfl) rfl #[.agg #[.slice A0_0 l0_0.length c0_0, .slice A0_1 l0_1.length c0_1]] rfl (by (try simp only [List.map_toArray, List.map_cons, List.map_nil]); rfl) ?_; (with_reducible refine (spec_l1Less.calls k (fun k_ => k_ < w.heap.size) _ _ l0_0 (fun k_ => k_ < w.heap.size) _ _ l0_1 t525 t528 _ ?side1 ?side2 A2.out).mono ?_); (case side1 => exact Kd.V_mk HC0_0.out (Kd.F_below (Kd.C_F Kd.heap_bool HR0_0.out) HB.out)); (case side2 => exact Kd.V_mk HC0_1.out (Kd.F_below (Kd.C_F Kd.heap_bool HR0_1.out) HB.out)); rintro e w24 ⟨v526, v529, rfl, ho0, ho1, hb⟩; refine ⟨_, rfl, ?_⟩; have HO527 := aM (Kd.V_lower (Kd.V_mono (ok' := fun k_ => k_ ≠ gb524) ho0 (fun k_ hk_ => Or.elim hk_ (fun hs_ => Or.elim hs_ (fun hs_ => fun e_ => Nat.not_le.2 hs_ (by rw [e_]; exact GW524.out)) (fun hs_ => fun e_ => Nat.not_le.2 hs_ (by rw [e_]; exact GW524.out))) (fun hn_ => (Kd.freshB (g := gb524) (o := .cells #[.slice A0_0 l0_0.length c0_0, .slice A0_1 l0_1.length c0_1] 66 (0, 0)) BK524.out k_ hn_)))) (below_size HB.out)); have HO530 := aM (Kd.V_lower (Kd.V_mono (ok' := fun k_ => k_ ≠ gb524) ho1 (fun k_ hk_ => Or.elim hk_ (fun hs_ => Or.elim hs_ (fun hs_ => fun e_ => Nat.not_le.2 hs_ (by rw [e_]; exact GW524.out)) (fun hs_ => fun e_ => Nat.not_le.2 hs_ (by rw [e_]; exact GW524.out))) (fun hn_ => (Kd.freshB (g := gb524) (o := .cells #[.slice A0_0 l0_0.length c0_0, .slice A0_1 l0_1.length c0_1] 66 (0, 0)) BK524.out k_ hn_)))) (below_size HB.out)); replace BK524 := aM (blk_below (g := gb524) (o := .cells #[.slice A0_0 l0_0.length c0_0, .slice A0_1 l0_1.length c0_1] 66 (0, 0)) BK524.out hb); replace HB := aM (below_step HB.out hb); (try clear hb); (try clear ho0); (try clear ho1)) | ((with_reducible refine gate_dst (N := 4) rfl ?_); (try (refine gate_guard (by rfl) ?_; dsimp only)); refine box_event ?hg (N := 4) ?hd (cs := #[.slice none 0 0, .slice none 0 0]) (t := 66) ?hr ?_; (case hd => rfl); (case hg => rfl); (case hr => first | (go_simp; done)); intro gb531 hg w25 hbox hb; replace HO527 := aM (Kd.V_below (Kd.V_elderB HO527.out gb531 (Nat.le_of_eq hg.symm)) hb); replace HO530 := aM (Kd.V_below (Kd.V_elderB HO530.out gb531 (Nat.le_of_eq hg.symm)) hb); have BK531 := aM hbox; have GW531 := aM ((by rw [hg]; exact (below_size HB.out) : w.heap.size ≤ gb531)); have GE531 := aM ((by rw [hg]; exact (below_size HB.out) : w.heap.size ≤ gb531)); replace HB := aM (below_step HB.out hb); have NB524_531 := aM ((by rw [hg]; exact Nat.ne_of_lt (blk_lt (g := gb524) (o := .cells #[.slice A0_0 l0_0.length c0_0, .slice A0_1 l0_1.length c0_1] 66 (0, 0)) BK524.out) : gb524 ≠ gb531)); have NB531_524 := aM ((by rw [hg]; exact Nat.ne_of_gt (blk_lt (g := gb524) (o := .cells #[.slice A0_0 l0_0.length c0_0, .slice A0_1 l0_1.length c0_1] 66 (0, 0)) BK524.out) : gb531 ≠ gb524)); replace BK524 := aM (blk_below (g := gb524) (o := .cells #[.slice A0_0 l0_0.length c0_0, .slice A0_1 l0_1.length c0_1] 66 (0, 0)) BK524.out hb); clear hb hbox hg; obtain ⟨Ao26, co26, eo26⟩ := Kd.V_slice HO527.out; subst eo26; have hnb27 := NB531_524.out; have hnc27 := NB524_531.out; have hcz28_0 : w25.cell? ⟨gb531, 0, none⟩ = some (.slice none 0 0) := (blk_cell BK531.out 0).trans rfl; have hcz28_1 : w25.cell? ⟨gb531, 1, none⟩ = some (.slice none 0 0) := (blk_cell BK531.out 1).trans rfl; have hfz28_0 := blk_frozen BK531.out 0; have hfz28_1 := blk_frozen BK531.out 1; obtain ⟨Ao29, co29, eo29⟩ := Kd.V_slice HO530.out; subst eo29) | ((with_reducible refine gate_callee (f := 110) rfl ?_); refine goesL_ (some 18) rfl rfl Try.func110 (by kernel_rfl) rfl #[.agg #[.slice Ao26 t525.length co26, .slice Ao29 t528.length co29]] rfl (by (try simp only [List.map_toArray, List.map_cons, List.map_nil]); rfl) ?_; (with_reducible refine (spec_l1Write.calls k _ _ t525 _ _ t528 t532 _ ?side1 ?side2 ?side3 ?side4 A21.out).mono ?_); (case side1 => refine (Kd.V_reads' (e := 4) (base := w.heap.size) (ok := fun k_ => (k_ ≠ gb524 ∧ k_ ≠ gb531)) (n := t525.length) (c := co26) ?_).2.2; exact (by exact (Kd.V_mono (Kd.V_far (p := ⟨gb531, 1, none⟩) (Kd.V_far (p := ⟨gb531, 0, none⟩) (Kd.V_mono HO527.out (fun k_ hk => (⟨hk, hk.2⟩ : _ ∧ k_ ≠ gb531))) (fun _ hk => hk.2) (.slice Ao26 t525.length co26)) (fun _ hk => hk.2) (.slice Ao29 t528.length co29)) (fun _ h_ => h_.1)))); (case side2 => exact (Kd.V_reads' HO527.out).2.1); (case side3 => refine (Kd.V_reads' (e := 4) (base := w.heap.size) (ok := fun k_ => (k_ ≠ gb524 ∧ k_ ≠ gb531)) (n := t528.length) (c := co29) ?_).2.2; exact (by exact (Kd.V_mono (Kd.V_far (p := ⟨gb531, 1, none⟩) (Kd.V_far (p := ⟨gb531, 0, none⟩) (Kd.V_mono HO530.out (fun k_ hk => (⟨hk, hk.2⟩ : _ ∧ k_ ≠ gb531))) (fun _ hk => hk.2) (.slice Ao26 t525.length co26)) (fun _ hk => hk.2) (.slice Ao29 t528.length co29)) (fun _ h_ => h_.1)))); (case side4 => exact (Kd.V_reads' HO530.out).2.1); rintro e w30 ⟨rfl, hb⟩; refine ⟨_, rfl, ?_⟩; replace HO527 := aM (Kd.V_below (by exact (Kd.V_mono (Kd.V_far (p := ⟨gb531, 1, none⟩) (Kd.V_far (p := ⟨gb531, 0, none⟩) (Kd.V_mono HO527.out (fun k_ hk => (⟨hk, hk.2⟩ : _ ∧ k_ ≠ gb531))) (fun _ hk => hk.2) (.slice Ao26 t525.length co26)) (fun _ hk => hk.2) (.slice Ao29 t528.length co29)) (fun _ h_ => h_.1))) hb); replace HO530 := aM (Kd.V_below (by exact (Kd.V_mono (Kd.V_far (p := ⟨gb531, 1, none⟩) (Kd.V_far (p := ⟨gb531, 0, none⟩) (Kd.V_mono HO530.out (fun k_ hk => (⟨hk, hk.2⟩ : _ ∧ k_ ≠ gb531))) (fun _ hk => hk.2) (.slice Ao26 t525.length co26)) (fun _ hk => hk.2) (.slice Ao29 t528.length co29)) (fun _ h_ => h_.1))) hb); replace BK524 := aM (blk_below (g := gb524) (o := .cells #[.slice A0_0 l0_0.length c0_0, .slice A0_1 l0_1.length c0_1] 66 (0, 0)) (by refine blk_far ?_ NB524_531.out _; refine blk_far ?_ NB524_531.out _; exact BK524.out) hb); replace BK531 := aM (blk_below (g := gb531) (o := .cells #[.slice Ao26 t525.length co26, .slice Ao29 t528.length co29] 66 (0, 0)) (by refine blk_put (cs := #[.slice Ao26 t525.length co26, .slice none 0 0]) ?_ 1 _ rfl; refine blk_put (cs := #[.slice none 0 0, .slice none 0 0]) ?_ 0 _ rfl; exact BK531.out) hb); replace HB := aM (below_step (by repeat (first | (with_reducible first | exact HB.out | refine bS ?_ GE531.out))) hb); (try clear hb)))
   go_ret2
   exact ⟨by first | rfl | (simp [*, errW_none, errW_some] <;> rfl), HB.out⟩


def spec_l2Fill.f (k : Nat) (l0 : List Bool) (a1 : Int) : Option (ByteArray × Bool) := if 0 ≤ a1 then (if a1 ≤ (l0.length : Int) then ((spec_l1Done.f k (l0.take (a1 : Int).toNat) (l0.drop (a1 : Int).toNat)).bind fun bt535 => (some (bt535.1, bt535.2))) else (none)) else (none)
theorem spec_l2Fill.mono : ∀ a0 a1 k, LeO (spec_l2Fill.f k a0 a1) (spec_l2Fill.f (k + 1) a0 a1) := by
 intro a0 a1 k
 unfold spec_l2Fill.f
 repeat' first | (with_reducible exact spec_l1Done.mono _ _ _) | (with_reducible exact LeO.refl _) | (with_reducible refine LeO.ite ?_ ?_) | (with_reducible refine LeO.bind ?_ (fun _ => ?_))
def spec_l2Fill.T1 : Bool × List (List Nat × List Nat) := (true, [([], []), ([], []), ([0, 1], [0, 1]), ([], []), ([], []), ([3, 4], [3, 4]), ([2, 5], [2, 5]), ([6], [6]), ([7], [7]), ([7], [7]), ([8, 7, 0, 1, 2, 3, 4, 5, 6, 7, 8, 9], [8]), ([9, 10, 0, 1, 2, 3, 4, 5, 6, 7, 8, 9, 10], [9])])
def spec_l2Fill.B1 : List Nat := [0, 0, 3, 0, 0, 24, 63, 127, 255, 255, 1023, 2047]
theorem spec_l2Fill.tab1 : rtab .any (opsOf Try.f76 1) = spec_l2Fill.T1 := by kernel_rfl
theorem spec_l2Fill.bits1 : waitsOk spec_l2Fill.T1.2 spec_l2Fill.B1 = true := by kernel_rfl
set_option maxHeartbeats 8000000 in
set_option maxRecDepth 100000 in
theorem spec_l2Fill.calls (k : Nat) (A0 : Option Addr) (c0 : Nat) (l0 : List Bool) (a1 : Int) (r1 : ByteArray) (r2 : Bool) (w : World) (hr0 : Kd.C Kd.bool w A0 l0.length l0) (hc0 : l0.length ≤ c0) (h : spec_l2Fill.f k l0 a1 = some (r1, r2)) :
  Calls Try.prog 76 #[.slice A0 l0.length c0, .int .i64 a1] w fun e w' => e = .returned (.tuple #[.string r1, .bool r2]) ∧ Below w.heap.size w w' := by
 have hu66 := Try.underlying66
 have HR0 := aM hr0
 have HC0 := aM hc0
 clear hr0 hc0
 have HB := aM (Below.refl w.heap.size w)
 have H : (if 0 ≤ a1 then (if a1 ≤ (l0.length : Int) then ((spec_l1Done.f k (l0.take (a1 : Int).toNat) (l0.drop (a1 : Int).toNat)).bind fun bt535 => (some (bt535.1, bt535.2))) else (none)) else (none)) = some (r1, r2) := h
 clear h
 by_cases c3 : 0 ≤ a1
 ·rw [if_pos c3] at H
  have c3b0 := eq_true c3
  have c3b1 : decide (0 ≤ a1) = true := decide_eq_true c3
  clear c3
  by_cases c4 : a1 ≤ (l0.length : Int)
  ·rw [if_pos c4] at H
   have c4b0 := eq_true c4
   have c4b1 : decide (a1 ≤ (l0.length : Int)) = true := decide_eq_true c4
   clear c4
   have c5b0 := eq_true (of_decide_eq_true (by (with_reducible assumption)) : 0 ≤ a1)
   have c6b0 := eq_true (of_decide_eq_true (by (with_reducible assumption)) : a1 ≤ (l0.length : Int))
   replace H := Option.bind_eq_some_iff.mp H
   obtain ⟨⟨t535, t536⟩, A70, H⟩ := H
   replace H : (some (t535, t536)) = some (r1, r2) := H
   have A7 := aM A70
   clear A70
   simp only [Option.some.injEq, Prod.mk.injEq] at H
   obtain ⟨rfl, rfl⟩ := H
   go_enter Try.func76, Try.ntmps76
   try go_wp2
   replace HB := aM (b1 HB.out)
   obtain ⟨i09, hi09, _, hsz9, _⟩ := info_parts info4
   obtain ⟨hcut9, hA9, hC9⟩ := print_take_of (P := Try.prog) Value.bool false 58 4 .i64 Try.underlying58 hi09 hsz9 A0 c0 l0 a1 (of_decide_eq_true (by (with_reducible assumption))) (of_decide_eq_true (by (with_reducible assumption))) HC0.out
   have HR533 := aM (Kd.C_of_reads (h1 := fun _ => rfl) (hA9 _ (Kd.reads_of_C HR0.out)))
   have HC533 := aM hC9
   clear hA9 hC9 hi09 hsz9
   obtain ⟨i010, hi010, _, hsz10, _⟩ := info_parts info4
   obtain ⟨A10, hcut10, hA10, hC10⟩ := print_drop_of (P := Try.prog) Value.bool false 58 4 .i64 Try.underlying58 hi010 hsz10 A0 c0 l0 a1 (of_decide_eq_true (by (with_reducible assumption))) (of_decide_eq_true (by (with_reducible assumption))) HC0.out
   have HR534 := aM (Kd.C_of_reads (h1 := fun _ => rfl) (hA10 _ (Kd.reads_of_C HR0.out)))
   have HC534 := aM hC10
   clear hA10 hC10 hi010 hsz10
   refine start_ (n := 12) (S := fun w' => True) (ds := []) #[false, false, false, false, false, false, false, false, false, false, false, false] (by kernel_rfl) rfl rfl trivial (fun hHeld => ?_); refine with_tabW spec_l2Fill.tab1 spec_l2Fill.bits1 (fun HT_ HW_ => ?_)
   generalize w.drew = w8 at HB HR533 HR534 hHeld ⊢
   refine pure_ (i := 0) (N := some 6) (v := ?_) (a' := ?_) #[true, false, false, false, false, false, false, false, false, false, false, false] rfl rfl (any_of HT_.out (by kernel_rfl)) (fun _ _ _ h => h) (Or.inl ⟨by rfl, ?_⟩) ?_ ?_
   rotate_left
   ·intro w'
    go_simp
    with_reducible rfl
   rotate_left
   ·simp only [Act.put, sA, sZ, sS, i64_w, i32_w]
    rfl
   refine pure_ (i := 1) (N := some 7) (v := ?_) (a' := ?_) #[true, true, false, false, false, false, false, false, false, false, false, false] rfl rfl (any_of HT_.out (by kernel_rfl)) (fun _ _ _ h => h) (Or.inl ⟨by rfl, ?_⟩) ?_ ?_
   rotate_left
   ·intro w'
    go_simp
    with_reducible rfl
   rotate_left
   ·simp only [Act.put, sA, sZ, sS, i64_w, i32_w]
    rfl
   refine pure_ (i := 2) (N := some 8) (v := ?_) (a' := ?_) #[true, true, true, false, false, false, false, false, false, false, false, false] rfl rfl (any_of HT_.out (by kernel_rfl)) (fun _ _ _ h => h) (Or.inl ⟨by rfl, ?_⟩) ?_ ?_
   rotate_left
   ·intro w'
    go_simp
    with_reducible rfl
   rotate_left
   ·simp only [Act.put, sA, sZ, sS, i64_w, i32_w]
    rfl
   refine pure_ (i := 3) (N := some 9) (v := ?_) (a' := ?_) #[true, true, true, true, false, false, false, false, false, false, false, false] rfl rfl (any_of HT_.out (by kernel_rfl)) (fun _ _ _ h => h) (Or.inl ⟨by rfl, ?_⟩) ?_ ?_
   rotate_left
   ·intro w'
    go_simp
    with_reducible rfl
   rotate_left
   ·simp only [Act.put, sA, sZ, sS, i64_w, i32_w]
    rfl
   refine pure_ (i := 4) (N := some 10) (v := ?_) (a' := ?_) #[true, true, true, true, true, false, false, false, false, false, false, false] rfl rfl (any_of HT_.out (by kernel_rfl)) (fun _ _ _ h => h) (Or.inl ⟨by rfl, ?_⟩) ?_ ?_
   rotate_left
   ·intro w'
    go_simp
    with_reducible rfl
   rotate_left
   ·simp only [Act.put, sA, sZ, sS, i64_w, i32_w]
    rfl
   refine pure_ (i := 5) (N := some 11) (v := ?_) (a' := ?_) #[true, true, true, true, true, true, false, false, false, false, false, false] rfl rfl (any_of HT_.out (by kernel_rfl)) (fun _ _ _ h => h) (Or.inl ⟨by rfl, ?_⟩) ?_ ?_
   rotate_left
   ·intro w'
    go_simp
    with_reducible rfl
   rotate_left
   ·simp only [Act.put, sA, sZ, sS, i64_w, i32_w]
    rfl
   refine pure_ (i := 6) (N := some 12) (v := ?_) (a' := ?_) #[true, true, true, true, true, true, true, false, false, false, false, false] rfl rfl (any_of HT_.out (by kernel_rfl)) (fun _ _ _ h => h) (Or.inl ⟨by rfl, ?_⟩) ?_ ?_
   rotate_left
   ·intro w'
    go_simp
    with_reducible rfl
   rotate_left
   ·simp only [Act.put, sA, sZ, sS, i64_w, i32_w]
    rfl
   refine one_ (i := 7) (N := some 13) #[true, true, true, true, true, true, true, true, false, false, false, false] rfl rfl (one_of HT_.out (by kernel_rfl)) (by decide) (fun K hK => ?_)
   refine goes_ Try.func75 (by kernel_rfl) rfl #[.agg #[.slice A0 (l0.take (a1 : Int).toNat).length c0, .slice A10 (l0.drop (a1 : Int).toNat).length (c0 - a1.toNat)]] (by rfl) rfl rfl (by (try simp only [List.map_toArray, List.map_cons, List.map_nil]); first | (rw [show (l0.take (a1 : Int).toNat).length = a1.toNat from (by rw [List.length_take]; have h_ : (a1 : Int) ≤ (l0.length : Int) := of_decide_eq_true (by (with_reducible assumption)); omega), show (l0.drop (a1 : Int).toNat).length = (l0.length - a1.toNat) from List.length_drop] <;> rfl)) ?_
   with_reducible refine (spec_l1Done.calls k _ _ (l0.take (a1 : Int).toNat) _ _ (l0.drop (a1 : Int).toNat) t535 t536 _ ?side1 ?side2 ?side3 ?side4 A7.out).mono ?_
   (case side1 => repeat (exact (Kd.C_below HR533.out HB.out)))
   (case side2 => exact HC533.out)
   (case side3 => repeat (exact (Kd.C_below HR534.out HB.out)))
   (case side4 => exact HC534.out)
   rintro e w11 ⟨rfl, hb⟩
   refine ⟨_, rfl, ?_⟩
   replace HB := aM (below_step HB.out hb)
   (try clear hb)
   refine hK.out _ _ trivial (fun hHeld => ?_)
   clear hK K
   refine norm_ (a' := ?_) ?_ ?_
   rotate_left
   ·show Act.put _ (some 13) _ = _
    simp only [Act.put, sA, sZ, sS, i64_w, i32_w]
    rfl
   refine pure_ (i := 8) (N := some 14) (v := ?_) (a' := ?_) #[true, true, true, true, true, true, true, true, true, false, false, false] rfl rfl (any_of HT_.out (by kernel_rfl)) (fun _ _ _ h => h) (Or.inl ⟨by rfl, ?_⟩) ?_ ?_
   rotate_left
   ·intro w'
    go_simp
    with_reducible rfl
   rotate_left
   ·simp only [Act.put, sA, sZ, sS, i64_w, i32_w]
    rfl
   refine pure_ (i := 9) (N := some 15) (v := ?_) (a' := ?_) #[true, true, true, true, true, true, true, true, true, true, false, false] rfl rfl (any_of HT_.out (by kernel_rfl)) (fun _ _ _ h => h) (Or.inl ⟨by rfl, ?_⟩) ?_ ?_
   rotate_left
   ·intro w'
    go_simp
    with_reducible rfl
   rotate_left
   ·simp only [Act.put, sA, sZ, sS, i64_w, i32_w]
    rfl
   refine pure_ (i := 10) (N := some 4) (v := ?_) (a' := ?_) #[true, true, true, true, true, true, true, true, true, true, true, false] rfl rfl (any_of HT_.out (by kernel_rfl)) (fun _ _ _ h => h) (Or.inl ⟨by rfl, ?_⟩) ?_ ?_
   rotate_left
   ·intro w'
    go_simp
    with_reducible rfl
   rotate_left
   ·simp only [Act.put, sA, sZ, sS, i64_w, i32_w]
    rfl
   refine pure_ (i := 11) (N := some 5) (v := ?_) (a' := ?_) #[true, true, true, true, true, true, true, true, true, true, true, true] rfl rfl (any_of HT_.out (by kernel_rfl)) (fun _ _ _ h => h) (Or.inl ⟨by rfl, ?_⟩) ?_ ?_
   rotate_left
   ·intro w'
    go_simp
    with_reducible rfl
   rotate_left
   ·simp only [Act.put, sA, sZ, sS, i64_w, i32_w]
    rfl
   refine done_ (done_of HT_.out (by kernel_rfl)) ?_
   try go_wp2
   go_ret2
   exact ⟨by first | rfl | (simp [*, errW_none, errW_some] <;> rfl), HB.out⟩
  ·rw [if_neg c4] at H
   exact absurd H (by simp)
 ·rw [if_neg c3] at H
  exact absurd H (by simp)


def spec_l4Whole.f (k : Nat) (l0_0 : List Bool) (l0_1 : List Bool) : Option (ByteArray × Bool) := (spec_l4Least.f k l0_0 l0_1).bind fun t538 => (if t538 = 0 then (some ((⟨#[49, 40, 48, 41]⟩ : ByteArray), true)) else ((spec_l4Star.f k l0_0 l0_1 (wrap64 (2400 + t538))).bind fun t539 => ((spec_l2Fill.f k t539 2400).bind fun bt542 => (some (bt542.1, bt542.2)))))
theorem spec_l4Whole.mono : ∀ a0 a1 k, LeO (spec_l4Whole.f k a0 a1) (spec_l4Whole.f (k + 1) a0 a1) := by
 intro a0 a1 k
 unfold spec_l4Whole.f
 repeat' first | (with_reducible exact spec_l2Fill.mono _ _ _) | (with_reducible exact spec_l4Least.mono _ _ _) | (with_reducible exact spec_l4Star.mono _ _ _ _) | (with_reducible exact LeO.refl _) | (with_reducible refine LeO.ite ?_ ?_) | (with_reducible refine LeO.bind ?_ (fun _ => ?_))
set_option maxHeartbeats 8000000 in
set_option maxRecDepth 100000 in
theorem spec_l4Whole.calls (k : Nat) (A0_0 : Option Addr) (c0_0 : Nat) (l0_0 : List Bool) (A0_1 : Option Addr) (c0_1 : Nat) (l0_1 : List Bool) (r1 : ByteArray) (r2 : Bool) (w : World) (hr0_0 : Kd.C Kd.bool w A0_0 l0_0.length l0_0) (hc0_0 : l0_0.length ≤ c0_0) (hr0_1 : Kd.C Kd.bool w A0_1 l0_1.length l0_1) (hc0_1 : l0_1.length ≤ c0_1) (h : spec_l4Whole.f k l0_0 l0_1 = some (r1, r2)) :
  Calls Try.prog 105 #[.agg #[.slice A0_0 l0_0.length c0_0, .slice A0_1 l0_1.length c0_1]] w fun e w' => e = .returned (.tuple #[.string r1, .bool r2]) ∧ Below w.heap.size w w' := by
 have hu66 := Try.underlying66
 have HR0_0 := aM hr0_0
 have HC0_0 := aM hc0_0
 clear hr0_0 hc0_0
 have HR0_1 := aM hr0_1
 have HC0_1 := aM hc0_1
 clear hr0_1 hc0_1
 have HB := aM (Below.refl w.heap.size w)
 have H : ((spec_l4Least.f k l0_0 l0_1).bind fun t538 => (if t538 = 0 then (some ((⟨#[49, 40, 48, 41]⟩ : ByteArray), true)) else ((spec_l4Star.f k l0_0 l0_1 (wrap64 (2400 + t538))).bind fun t539 => ((spec_l2Fill.f k t539 2400).bind fun bt542 => (some (bt542.1, bt542.2)))))) = some (r1, r2) := h
 clear h
 replace H := Option.bind_eq_some_iff.mp H
 obtain ⟨t538, A20, H⟩ := H
 replace H : (if t538 = 0 then (some ((⟨#[49, 40, 48, 41]⟩ : ByteArray), true)) else ((spec_l4Star.f k l0_0 l0_1 (wrap64 (2400 + t538))).bind fun t539 => ((spec_l2Fill.f k t539 2400).bind fun bt542 => (some (bt542.1, bt542.2))))) = some (r1, r2) := H
 have A2 := aM A20
 clear A20
 by_cases c3 : t538 = 0
 ·rw [if_pos c3] at H
  have c3b0 : (t538 == 0) = true := beq_iff_eq.mpr c3
  have c3b1 : (t538 != 0) = false := bne_eq_false_iff_eq.mpr c3
  clear c3
  simp only [Option.some.injEq, Prod.mk.injEq] at H
  obtain ⟨rfl, rfl⟩ := H
  go_enter Try.func105, Try.ntmps105
  go_wp2_with (first | ((with_reducible refine gate_dst (N := 1) rfl ?_); refine box_event ?hg (N := 1) ?hd (cs := #[.slice A0_0 l0_0.length c0_0, .slice A0_1 l0_1.length c0_1]) (t := 66) ?hr ?_; (case hd => rfl); (case hg => rfl); (case hr => first | (go_simp; done)); intro gb537 hg w4 hbox hb; have BK537 := aM hbox; have GW537 := aM ((by rw [hg]; exact (below_size HB.out) : w.heap.size ≤ gb537)); have GE537 := aM ((by rw [hg]; exact (below_size HB.out) : w.heap.size ≤ gb537)); replace HB := aM (below_step HB.out hb); clear hb hbox hg; have hcz5_0 : w4.cell? ⟨gb537, 0, none⟩ = some (.slice A0_0 l0_0.length c0_0) := (blk_cell BK537.out 0).trans rfl; have hcz5_1 : w4.cell? ⟨gb537, 1, none⟩ = some (.slice A0_1 l0_1.length c0_1) := (blk_cell BK537.out 1).trans rfl; have hfz5_0 := blk_frozen BK537.out 0; have hfz5_1 := blk_frozen BK537.out 1) | ((with_reducible refine gate_callee (f := 73) rfl ?_); refine goesL_ (some 6) rfl rfl Try.func73 (by kernel_rfl) rfl #[.agg #[.slice A0_0 l0_0.length c0_0, .slice A0_1 l0_1.length c0_1]] rfl (by (try simp only [List.map_toArray, List.map_cons, List.map_nil]); rfl) ?_; (with_reducible refine (spec_l4Least.calls k _ _ l0_0 _ _ l0_1 t538 _ ?side1 ?side2 ?side3 ?side4 A2.out).mono ?_); (case side1 => repeat (exact (Kd.C_below HR0_0.out HB.out))); (case side2 => exact HC0_0.out); (case side3 => repeat (exact (Kd.C_below HR0_1.out HB.out))); (case side4 => exact HC0_1.out); rintro e w6 ⟨rfl, hb⟩; refine ⟨_, rfl, ?_⟩; replace BK537 := aM (blk_below (g := gb537) (o := .cells #[.slice A0_0 l0_0.length c0_0, .slice A0_1 l0_1.length c0_1] 66 (0, 0)) BK537.out hb); replace HB := aM (below_step HB.out hb); (try clear hb)))
  go_ret2
  exact ⟨by first | rfl | (simp [*, errW_none, errW_some] <;> rfl), HB.out⟩
 ·rw [if_neg c3] at H
  have c3b0 : (t538 == 0) = false := beq_eq_false_iff_ne.mpr c3
  have c3b1 : (t538 != 0) = true := bne_iff_ne.mpr c3
  replace H := Option.bind_eq_some_iff.mp H
  obtain ⟨t539, A70, H⟩ := H
  replace H : ((spec_l2Fill.f k t539 2400).bind fun bt542 => (some (bt542.1, bt542.2))) = some (r1, r2) := H
  have A7 := aM A70
  clear A70
  replace H := Option.bind_eq_some_iff.mp H
  obtain ⟨⟨t542, t543⟩, A80, H⟩ := H
  replace H : (some (t542, t543)) = some (r1, r2) := H
  have A8 := aM A80
  clear A80
  simp only [Option.some.injEq, Prod.mk.injEq] at H
  obtain ⟨rfl, rfl⟩ := H
  go_enter Try.func105, Try.ntmps105
  go_wp2_with (first | ((with_reducible refine gate_dst (N := 1) rfl ?_); refine box_event ?hg (N := 1) ?hd (cs := #[.slice A0_0 l0_0.length c0_0, .slice A0_1 l0_1.length c0_1]) (t := 66) ?hr ?_; (case hd => rfl); (case hg => rfl); (case hr => first | (go_simp; done)); intro gb537 hg w9 hbox hb; have BK537 := aM hbox; have GW537 := aM ((by rw [hg]; exact (below_size HB.out) : w.heap.size ≤ gb537)); have GE537 := aM ((by rw [hg]; exact (below_size HB.out) : w.heap.size ≤ gb537)); replace HB := aM (below_step HB.out hb); clear hb hbox hg; have hcz10_0 : w9.cell? ⟨gb537, 0, none⟩ = some (.slice A0_0 l0_0.length c0_0) := (blk_cell BK537.out 0).trans rfl; have hcz10_1 : w9.cell? ⟨gb537, 1, none⟩ = some (.slice A0_1 l0_1.length c0_1) := (blk_cell BK537.out 1).trans rfl; have hfz10_0 := blk_frozen BK537.out 0; have hfz10_1 := blk_frozen BK537.out 1) | ((with_reducible refine gate_callee (f := 73) rfl ?_); refine goesL_ (some 6) rfl rfl Try.func73 (by kernel_rfl) rfl #[.agg #[.slice A0_0 l0_0.length c0_0, .slice A0_1 l0_1.length c0_1]] rfl (by (try simp only [List.map_toArray, List.map_cons, List.map_nil]); rfl) ?_; (with_reducible refine (spec_l4Least.calls k _ _ l0_0 _ _ l0_1 t538 _ ?side1 ?side2 ?side3 ?side4 A2.out).mono ?_); (case side1 => repeat (exact (Kd.C_below HR0_0.out HB.out))); (case side2 => exact HC0_0.out); (case side3 => repeat (exact (Kd.C_below HR0_1.out HB.out))); (case side4 => exact HC0_1.out); rintro e w11 ⟨rfl, hb⟩; refine ⟨_, rfl, ?_⟩; replace BK537 := aM (blk_below (g := gb537) (o := .cells #[.slice A0_0 l0_0.length c0_0, .slice A0_1 l0_1.length c0_1] 66 (0, 0)) BK537.out hb); replace HB := aM (below_step HB.out hb); (try clear hb); have hcz12_0 : w11.cell? ⟨gb537, 0, none⟩ = some (.slice A0_0 l0_0.length c0_0) := (blk_cell BK537.out 0).trans rfl; have hcz12_1 : w11.cell? ⟨gb537, 1, none⟩ = some (.slice A0_1 l0_1.length c0_1) := (blk_cell BK537.out 1).trans rfl; have hfz12_0 := blk_frozen BK537.out 0; have hfz12_1 := blk_frozen BK537.out 1) | ((with_reducible refine gate_callee (f := 74) rfl ?_); refine goesL_ (some 12) rfl rfl Try.func74 (by kernel_rfl) rfl #[.agg #[.slice A0_0 l0_0.length c0_0, .slice A0_1 l0_1.length c0_1], .int .i64 (wrap64 (2400 + t538))] rfl (by (try simp only [List.map_toArray, List.map_cons, List.map_nil]); rfl) ?_; (with_reducible refine (spec_l4Star.calls k _ _ l0_0 _ _ l0_1 (wrap64 (2400 + t538)) t539 _ ?side1 ?side2 ?side3 ?side4 A7.out).mono ?_); (case side1 => repeat (exact (Kd.C_below HR0_0.out HB.out))); (case side2 => exact HC0_0.out); (case side3 => repeat (exact (Kd.C_below HR0_1.out HB.out))); (case side4 => exact HC0_1.out); rintro e w13 ⟨v540, rfl, ho0, hb⟩; refine ⟨_, rfl, ?_⟩; have HO541 := aM (Kd.R_lower ho0 (below_size HB.out)); replace BK537 := aM (blk_below (g := gb537) (o := .cells #[.slice A0_0 l0_0.length c0_0, .slice A0_1 l0_1.length c0_1] 66 (0, 0)) BK537.out hb); replace HB := aM (below_step HB.out hb); (try clear hb); (try clear ho0); obtain ⟨Ao14, co14, eo14⟩ := Kd.R_slice HO541.out; subst eo14) | ((with_reducible refine gate_callee (f := 76) rfl ?_); refine goesL_ (some 13) rfl rfl Try.func76 (by kernel_rfl) rfl #[.slice Ao14 t539.length co14, .int .i64 2400] rfl (by (try simp only [List.map_toArray, List.map_cons, List.map_nil]); rfl) ?_; (with_reducible refine (spec_l2Fill.calls k _ _ t539 2400 t542 t543 _ ?side1 ?side2 A8.out).mono ?_); (case side1 => repeat (exact (Kd.R_reads' HO541.out).2.2)); (case side2 => exact (Kd.R_reads' HO541.out).2.1); rintro e w15 ⟨rfl, hb⟩; refine ⟨_, rfl, ?_⟩; replace HO541 := aM (Kd.R_below HO541.out hb); replace BK537 := aM (blk_below (g := gb537) (o := .cells #[.slice A0_0 l0_0.length c0_0, .slice A0_1 l0_1.length c0_1] 66 (0, 0)) BK537.out hb); replace HB := aM (below_step HB.out hb); (try clear hb)))
  go_ret2
  exact ⟨by first | rfl | (simp [*, errW_none, errW_some] <;> rfl), HB.out⟩


def spec_StarOf.f (k : Nat) (a0 : ByteArray) : Option (ByteArray × Bool) := (spec_l4Small.f k a0).bind fun bt544 => (if bt544.2.2 = true then ((spec_l4Whole.f k bt544.1 bt544.2.1).bind fun bt552 => (some (bt552.1, bt552.2))) else (some ((⟨#[]⟩ : ByteArray), false)))
theorem spec_StarOf.mono : ∀ a0 k, LeO (spec_StarOf.f k a0) (spec_StarOf.f (k + 1) a0) := by
 intro a0 k
 unfold spec_StarOf.f
 repeat' first | (with_reducible exact spec_l4Small.mono _ _) | (with_reducible exact spec_l4Whole.mono _ _ _) | (with_reducible exact LeO.refl _) | (with_reducible refine LeO.ite ?_ ?_) | (with_reducible refine LeO.bind ?_ (fun _ => ?_))
set_option maxHeartbeats 8000000 in
set_option maxRecDepth 100000 in
theorem spec_StarOf.calls (k : Nat) (a0 : ByteArray) (r1 : ByteArray) (r2 : Bool) (w : World) (h : spec_StarOf.f k a0 = some (r1, r2)) :
  Calls Try.prog 62 #[.string a0] w fun e w' => e = .returned (.tuple #[.string r1, .bool r2]) ∧ Below w.heap.size w w' := by
 have hu66 := Try.underlying66
 have HB := aM (Below.refl w.heap.size w)
 have H : ((spec_l4Small.f k a0).bind fun bt544 => (if bt544.2.2 = true then ((spec_l4Whole.f k bt544.1 bt544.2.1).bind fun bt552 => (some (bt552.1, bt552.2))) else (some ((⟨#[]⟩ : ByteArray), false)))) = some (r1, r2) := h
 clear h
 replace H := Option.bind_eq_some_iff.mp H
 obtain ⟨⟨t544, t547, t550⟩, A20, H⟩ := H
 replace H : (if t550 = true then ((spec_l4Whole.f k t544 t547).bind fun bt552 => (some (bt552.1, bt552.2))) else (some ((⟨#[]⟩ : ByteArray), false))) = some (r1, r2) := H
 have A2 := aM A20
 clear A20
 by_cases c3 : t550 = true
 ·subst c3
  replace H : ((spec_l4Whole.f k t544 t547).bind fun bt552 => (some (bt552.1, bt552.2))) = some (r1, r2) := by rw [if_pos rfl] at H; exact H
  replace H := Option.bind_eq_some_iff.mp H
  obtain ⟨⟨t552, t553⟩, A40, H⟩ := H
  replace H : (some (t552, t553)) = some (r1, r2) := H
  have A4 := aM A40
  clear A40
  simp only [Option.some.injEq, Prod.mk.injEq] at H
  obtain ⟨rfl, rfl⟩ := H
  go_enter Try.func62, Try.ntmps62
  go_wp2_with (first | ((with_reducible refine gate_callee (f := 57) rfl ?_); refine goesL_ (some 8) rfl rfl Try.func57 (by kernel_rfl) rfl #[.string a0] rfl (by (try simp only [List.map_toArray, List.map_cons, List.map_nil]); rfl) ?_; (with_reducible refine (spec_l4Small.calls k a0 t544 t547 true _ A2.out).mono ?_); rintro e w5 ⟨v545, v548, rfl, ho0, ho1, hb⟩; refine ⟨_, rfl, ?_⟩; have HO546 := aM (Kd.V_lower (Kd.V_mono (ok' := fun k_ => True) ho0 (fun k_ hk_ => trivial)) (below_size HB.out)); have HO549 := aM (Kd.V_lower (Kd.V_mono (ok' := fun k_ => True) ho1 (fun k_ hk_ => trivial)) (below_size HB.out)); replace HB := aM (below_step HB.out hb); (try clear hb); (try clear ho0); (try clear ho1)) | ((with_reducible refine gate_dst (N := 4) rfl ?_); refine box_event ?hg (N := 4) ?hd (cs := #[.slice none 0 0, .slice none 0 0]) (t := 66) ?hr ?_; (case hd => rfl); (case hg => rfl); (case hr => first | (go_simp; done)); intro gb551 hg w6 hbox hb; replace HO546 := aM (Kd.V_below (Kd.V_elderB HO546.out gb551 (Nat.le_of_eq hg.symm)) hb); replace HO549 := aM (Kd.V_below (Kd.V_elderB HO549.out gb551 (Nat.le_of_eq hg.symm)) hb); have BK551 := aM hbox; have GW551 := aM ((by rw [hg]; exact (below_size HB.out) : w.heap.size ≤ gb551)); have GE551 := aM ((by rw [hg]; exact (below_size HB.out) : w.heap.size ≤ gb551)); replace HB := aM (below_step HB.out hb); clear hb hbox hg; obtain ⟨Ao7, co7, eo7⟩ := Kd.V_slice HO546.out; subst eo7; have hcz8_0 : w6.cell? ⟨gb551, 0, none⟩ = some (.slice none 0 0) := (blk_cell BK551.out 0).trans rfl; have hcz8_1 : w6.cell? ⟨gb551, 1, none⟩ = some (.slice none 0 0) := (blk_cell BK551.out 1).trans rfl; have hfz8_0 := blk_frozen BK551.out 0; have hfz8_1 := blk_frozen BK551.out 1; obtain ⟨Ao9, co9, eo9⟩ := Kd.V_slice HO549.out; subst eo9) | ((with_reducible refine gate_callee (f := 105) rfl ?_); refine goesL_ (some 14) rfl rfl Try.func105 (by kernel_rfl) rfl #[.agg #[.slice Ao7 t544.length co7, .slice Ao9 t547.length co9]] rfl (by (try simp only [List.map_toArray, List.map_cons, List.map_nil]); rfl) ?_; (with_reducible refine (spec_l4Whole.calls k _ _ t544 _ _ t547 t552 t553 _ ?side1 ?side2 ?side3 ?side4 A4.out).mono ?_); (case side1 => refine (Kd.V_reads' (e := 4) (base := w.heap.size) (ok := fun k_ => (True ∧ k_ ≠ gb551)) (n := t544.length) (c := co7) ?_).2.2; exact (by exact (Kd.V_mono (Kd.V_far (p := ⟨gb551, 1, none⟩) (Kd.V_far (p := ⟨gb551, 0, none⟩) (Kd.V_mono HO546.out (fun k_ hk => (⟨hk, hk.2⟩ : _ ∧ k_ ≠ gb551))) (fun _ hk => hk.2) (.slice Ao7 t544.length co7)) (fun _ hk => hk.2) (.slice Ao9 t547.length co9)) (fun _ h_ => h_.1)))); (case side2 => exact (Kd.V_reads' HO546.out).2.1); (case side3 => refine (Kd.V_reads' (e := 4) (base := w.heap.size) (ok := fun k_ => (True ∧ k_ ≠ gb551)) (n := t547.length) (c := co9) ?_).2.2; exact (by exact (Kd.V_mono (Kd.V_far (p := ⟨gb551, 1, none⟩) (Kd.V_far (p := ⟨gb551, 0, none⟩) (Kd.V_mono HO549.out (fun k_ hk => (⟨hk, hk.2⟩ : _ ∧ k_ ≠ gb551))) (fun _ hk => hk.2) (.slice Ao7 t544.length co7)) (fun _ hk => hk.2) (.slice Ao9 t547.length co9)) (fun _ h_ => h_.1)))); (case side4 => exact (Kd.V_reads' HO549.out).2.1); rintro e w10 ⟨rfl, hb⟩; refine ⟨_, rfl, ?_⟩; replace HO546 := aM (Kd.V_below (by exact (Kd.V_mono (Kd.V_far (p := ⟨gb551, 1, none⟩) (Kd.V_far (p := ⟨gb551, 0, none⟩) (Kd.V_mono HO546.out (fun k_ hk => (⟨hk, hk.2⟩ : _ ∧ k_ ≠ gb551))) (fun _ hk => hk.2) (.slice Ao7 t544.length co7)) (fun _ hk => hk.2) (.slice Ao9 t547.length co9)) (fun _ h_ => h_.1))) hb); replace HO549 := aM (Kd.V_below (by exact (Kd.V_mono (Kd.V_far (p := ⟨gb551, 1, none⟩) (Kd.V_far (p := ⟨gb551, 0, none⟩) (Kd.V_mono HO549.out (fun k_ hk => (⟨hk, hk.2⟩ : _ ∧ k_ ≠ gb551))) (fun _ hk => hk.2) (.slice Ao7 t544.length co7)) (fun _ hk => hk.2) (.slice Ao9 t547.length co9)) (fun _ h_ => h_.1))) hb); replace BK551 := aM (blk_below (g := gb551) (o := .cells #[.slice Ao7 t544.length co7, .slice Ao9 t547.length co9] 66 (0, 0)) (by refine blk_put (cs := #[.slice Ao7 t544.length co7, .slice none 0 0]) ?_ 1 _ rfl; refine blk_put (cs := #[.slice none 0 0, .slice none 0 0]) ?_ 0 _ rfl; exact BK551.out) hb); replace HB := aM (below_step (by repeat (first | (with_reducible first | exact HB.out | refine bS ?_ GE551.out))) hb); (try clear hb)))
  go_ret2
  exact ⟨by first | rfl | (simp [*, errW_none, errW_some] <;> rfl), HB.out⟩
 ·replace c3 := Bool.eq_false_iff.mpr c3
  subst c3
  replace H : (some ((⟨#[]⟩ : ByteArray), false)) = some (r1, r2) := by rw [if_neg (show ¬ (false = true) by decide)] at H; exact H
  simp only [Option.some.injEq, Prod.mk.injEq] at H
  obtain ⟨rfl, rfl⟩ := H
  go_enter Try.func62, Try.ntmps62
  go_wp2_with (first | ((with_reducible refine gate_callee (f := 57) rfl ?_); refine goesL_ (some 8) rfl rfl Try.func57 (by kernel_rfl) rfl #[.string a0] rfl (by (try simp only [List.map_toArray, List.map_cons, List.map_nil]); rfl) ?_; (with_reducible refine (spec_l4Small.calls k a0 t544 t547 false _ A2.out).mono ?_); rintro e w11 ⟨v545, v548, rfl, ho0, ho1, hb⟩; refine ⟨_, rfl, ?_⟩; have HO546 := aM (Kd.V_lower (Kd.V_mono (ok' := fun k_ => True) ho0 (fun k_ hk_ => trivial)) (below_size HB.out)); have HO549 := aM (Kd.V_lower (Kd.V_mono (ok' := fun k_ => True) ho1 (fun k_ hk_ => trivial)) (below_size HB.out)); replace HB := aM (below_step HB.out hb); (try clear hb); (try clear ho0); (try clear ho1)) | ((with_reducible refine gate_dst (N := 4) rfl ?_); refine box_event ?hg (N := 4) ?hd (cs := #[.slice none 0 0, .slice none 0 0]) (t := 66) ?hr ?_; (case hd => rfl); (case hg => rfl); (case hr => first | (go_simp; done)); intro gb551 hg w12 hbox hb; replace HO546 := aM (Kd.V_below (Kd.V_elderB HO546.out gb551 (Nat.le_of_eq hg.symm)) hb); replace HO549 := aM (Kd.V_below (Kd.V_elderB HO549.out gb551 (Nat.le_of_eq hg.symm)) hb); have BK551 := aM hbox; have GW551 := aM ((by rw [hg]; exact (below_size HB.out) : w.heap.size ≤ gb551)); have GE551 := aM ((by rw [hg]; exact (below_size HB.out) : w.heap.size ≤ gb551)); replace HB := aM (below_step HB.out hb); clear hb hbox hg; obtain ⟨Ao13, co13, eo13⟩ := Kd.V_slice HO546.out; subst eo13; have hcz14_0 : w12.cell? ⟨gb551, 0, none⟩ = some (.slice none 0 0) := (blk_cell BK551.out 0).trans rfl; have hcz14_1 : w12.cell? ⟨gb551, 1, none⟩ = some (.slice none 0 0) := (blk_cell BK551.out 1).trans rfl; have hfz14_0 := blk_frozen BK551.out 0; have hfz14_1 := blk_frozen BK551.out 1; obtain ⟨Ao15, co15, eo15⟩ := Kd.V_slice HO549.out; subst eo15))
  go_ret2
  exact ⟨by first | rfl | (simp [*, errW_none, errW_some] <;> rfl), by repeat (first | (with_reducible first | exact HB.out | refine bS ?_ GE551.out))⟩


def spec_l1Divisor.l0 : Nat → Int → Int → Option (Int)
 | 0, _, _ => none
 | k + 1, x0, x1 => if x1 > 0 then (if x1 = 0 then (none) else (spec_l1Divisor.l0 k x1 (Int.tmod x0 x1))) else (some x0)
def spec_l1Divisor.f (k : Nat) (a0 : Int) (a1 : Int) : Option (Int) := spec_l1Divisor.l0 k a0 a1
theorem spec_l1Divisor.mono_l : ∀ k, (∀ y0 y1, LeO (spec_l1Divisor.l0 k y0 y1) (spec_l1Divisor.l0 (k + 1) y0 y1))
 | 0 => fun _ _ r h => by simp [spec_l1Divisor.l0] at h
 | k + 1 => by
  have ih0 := spec_l1Divisor.mono_l k
  ·intro y0 y1
   unfold spec_l1Divisor.l0
   repeat' first | (with_reducible exact ih0 _ _) | (with_reducible exact LeO.refl _) | (with_reducible refine LeO.ite ?_ ?_)
theorem spec_l1Divisor.mono : ∀ a0 a1 k, LeO (spec_l1Divisor.f k a0 a1) (spec_l1Divisor.f (k + 1) a0 a1) := by
 intro a0 a1 k
 have ih0 := spec_l1Divisor.mono_l k
 unfold spec_l1Divisor.f
 repeat' (with_reducible exact ih0 _ _)
set_option maxHeartbeats 8000000 in
set_option maxRecDepth 100000 in
theorem spec_l1Divisor.calls (k : Nat) (a0 : Int) (a1 : Int) (r : Int) (w : World) (h : spec_l1Divisor.f k a0 a1 = some r) :
  Calls Try.prog 107 #[.int .i64 a0, .int .i64 a1] w fun e w' => e = .returned (.int .i64 r) ∧ Drawn0 w w' := by
 have H : (spec_l1Divisor.l0 k a0 a1) = some r := h
 clear h
 have H' := aM H
 clear H
 go_enter Try.func107, Try.ntmps107
 go_wp2
 go_loopg [0, 1] k (fun kq v0 v1 w' => ∃ (x0_1 : Int) (x1_1 : Int), v0 = .int .i64 x0_1 ∧ v1 = .int .i64 x1_1 ∧ Aside0 (spec_l1Divisor.l0 kq x0_1 x1_1 = some r) ∧ Aside0 (kq ≤ k) ∧ Drawn0 w w')
 case atStart => exact ⟨(a0), (a1), (by rfl), (by rfl), H', ⟨Nat.le_refl _⟩, by repeat (exact Drawn0.refl _)⟩
 case round =>
  clear H'
  obtain ⟨x0_1, x1_1, rfl, rfl, HA, HK1, ⟨m1, rfl⟩⟩ := hrel
  cases gk with
  | zero => exact absurd HA.out (by simp [spec_l1Divisor.l0])
  | succ k1 =>
   have H := HA.out
   clear HA
   simp only [spec_l1Divisor.l0] at H
   by_cases c3 : x1_1 > 0
   ·rw [if_pos c3] at H
    have c3b0 : decide (0 < x1_1) = true := decide_eq_true c3
    clear c3
    by_cases c4 : x1_1 = 0
    ·rw [if_pos c4] at H
     exact absurd H (by simp)
    ·rw [if_neg c4] at H
     have c4b0 : (x1_1 == 0) = false := beq_eq_false_iff_ne.mpr c4
     have c4b1 : (x1_1 != 0) = true := bne_iff_ne.mpr c4
     have H' := aM H
     clear H
     go_wp2
     go_roundg k1
     case measure => have := HK1.out; omega
     case rel => exact ⟨(x1_1), (Int.tmod x0_1 x1_1), (by rfl), (by rfl), H', ⟨by have := HK1.out; omega⟩, by repeat (first | exact Drawn0.refl _ | apply Drawn0.step)⟩
   ·rw [if_neg c3] at H
    have c3b0 : decide (0 < x1_1) = false := decide_eq_false c3
    clear c3
    obtain rfl := Option.some.inj H
    go_wp2
    go_ret
    exact ⟨by first | rfl | (simp [*]; done), by repeat (first | exact Drawn0.refl _ | apply Drawn0.step)⟩


def spec_l1Shape.f (k : Nat) (l0_0 : List Bool) (l0_1 : List Bool) (l1_0 : List Bool) (l1_1 : List Bool) : Option (Int × Int) := (spec_l1Divisor.f k (l0_1.length : Int) (l1_1.length : Int)).bind fun t556 => (if t556 = 0 then (none) else (some (mx (l0_0.length : Int) (l1_0.length : Int), wrap64 ((wrap64 ((l0_1.length : Int) / t556)) * (l1_1.length : Int)))))
theorem spec_l1Shape.mono : ∀ a0 a1 a2 a3 k, LeO (spec_l1Shape.f k a0 a1 a2 a3) (spec_l1Shape.f (k + 1) a0 a1 a2 a3) := by
 intro a0 a1 a2 a3 k
 unfold spec_l1Shape.f
 repeat' first
   |(with_reducible exact spec_l1Divisor.mono _ _ _)
   |(with_reducible exact LeO.refl _)
   |(with_reducible exact LeO.none _)
   |(with_reducible refine LeO.ite ?_ ?_)
   |(with_reducible refine LeO.bind ?_ (fun _ => ?_))
   |exact spec_l1Divisor.mono _ _ _
   |exact LeO.none _
   |refine LeO.ite ?_ ?_
   |refine LeO.bind ?_ (fun _ => ?_)
set_option maxHeartbeats 8000000 in
set_option maxRecDepth 100000 in
theorem spec_l1Shape.calls (k : Nat) (A0_0 : Option Addr) (c0_0 : Nat) (l0_0 : List Bool) (A0_1 : Option Addr) (c0_1 : Nat) (l0_1 : List Bool) (A1_0 : Option Addr) (c1_0 : Nat) (l1_0 : List Bool) (A1_1 : Option Addr) (c1_1 : Nat) (l1_1 : List Bool) (r1 : Int) (r2 : Int) (w : World) (hr0_0 : Kd.C Kd.bool w A0_0 l0_0.length l0_0) (hc0_0 : l0_0.length ≤ c0_0) (hr0_1 : Kd.C Kd.bool w A0_1 l0_1.length l0_1) (hc0_1 : l0_1.length ≤ c0_1) (hr1_0 : Kd.C Kd.bool w A1_0 l1_0.length l1_0) (hc1_0 : l1_0.length ≤ c1_0) (hr1_1 : Kd.C Kd.bool w A1_1 l1_1.length l1_1) (hc1_1 : l1_1.length ≤ c1_1) (h : spec_l1Shape.f k l0_0 l0_1 l1_0 l1_1 = some (r1, r2)) :
  Calls Try.prog 66 #[.agg #[.slice A0_0 l0_0.length c0_0, .slice A0_1 l0_1.length c0_1], .agg #[.slice A1_0 l1_0.length c1_0, .slice A1_1 l1_1.length c1_1]] w fun e w' => e = .returned (.tuple #[.int .i64 r1, .int .i64 r2]) ∧ Below w.heap.size w w' := by
 have hu66 := Try.underlying66
 have HR0_0 := aM hr0_0
 have HC0_0 := aM hc0_0
 clear hr0_0 hc0_0
 have HR0_1 := aM hr0_1
 have HC0_1 := aM hc0_1
 clear hr0_1 hc0_1
 have HR1_0 := aM hr1_0
 have HC1_0 := aM hc1_0
 clear hr1_0 hc1_0
 have HR1_1 := aM hr1_1
 have HC1_1 := aM hc1_1
 clear hr1_1 hc1_1
 have HB := aM (Below.refl w.heap.size w)
 have H : ((spec_l1Divisor.f k (l0_1.length : Int) (l1_1.length : Int)).bind fun t556 => (if t556 = 0 then (none) else (some (mx (l0_0.length : Int) (l1_0.length : Int), wrap64 ((wrap64 ((l0_1.length : Int) / t556)) * (l1_1.length : Int)))))) = some (r1, r2) := h
 clear h
 replace H := Option.bind_eq_some_iff.mp H
 obtain ⟨t556, A30, H⟩ := H
 replace H : (if t556 = 0 then (none) else (some (mx (l0_0.length : Int) (l1_0.length : Int), wrap64 ((wrap64 ((l0_1.length : Int) / t556)) * (l1_1.length : Int))))) = some (r1, r2) := H
 have A3 := aM A30
 clear A30
 by_cases c4 : t556 = 0
 ·rw [if_pos c4] at H
  exact absurd H (by simp)
 ·rw [if_neg c4] at H
  have c4b0 : (t556 == 0) = false := beq_eq_false_iff_ne.mpr c4
  have c4b1 : (t556 != 0) = true := bne_iff_ne.mpr c4
  obtain ⟨ji5, hji5⟩ : ∃ j_ : Int, (mx (l0_0.length : Int) (l1_0.length : Int)) = j_ := ⟨_, rfl⟩
  replace H : (some (ji5, wrap64 ((wrap64 ((l0_1.length : Int) / t556)) * (l1_1.length : Int)))) = some (r1, r2) := by first | (rw [hji5] at H; exact H) | (simp only [hji5] at H ⊢; exact H)
  (try rw [hji5] at A3)
  (try (have hji5l : 0 ≤ ji5 := by (rw [← hji5]; unfold mx; (repeat' split) <;> omega)))
  (try (have hji5m : 0 ≤ ji5 := by omega))
  have hji5_ : (if (l0_0.length : Int) < (l1_0.length : Int) then (l1_0.length : Int) else (l0_0.length : Int)) = ji5 := hji5
  have hji5n : (if l0_0.length < l1_0.length then (l1_0.length : Int) else (l0_0.length : Int)) = ji5 := by rw [← hji5_]; split <;> split <;> omega
  simp only [Option.some.injEq, Prod.mk.injEq] at H
  obtain ⟨rfl, rfl⟩ := H
  go_enter Try.func66, Try.ntmps66
  go_wp2_with (first | ((with_reducible refine gate_dst (N := 2) rfl ?_); refine box_event ?hg (N := 2) ?hd (cs := #[.slice A0_0 l0_0.length c0_0, .slice A0_1 l0_1.length c0_1]) (t := 66) ?hr ?_; (case hd => rfl); (case hg => rfl); (case hr => first | (go_simp; done) | (go_simp; rfl)); intro gb554 hg w6 hbox hb; have BK554 := aM hbox; have GW554 := aM ((by rw [hg]; exact (below_size (by repeat (first | (with_reducible first | exact HB.out | apply bA | apply bN | apply b1) | exact HB.out))) : w.heap.size ≤ gb554)); have GE554 := aM ((by rw [hg]; exact (below_size (by repeat (first | (with_reducible first | exact HB.out | apply bA | apply bN | apply b1) | exact HB.out))) : w.heap.size ≤ gb554)); replace HB := aM (below_step (by repeat (first | (with_reducible first | exact HB.out | apply bA | apply bN | apply b1) | exact HB.out)) hb); clear hb hbox hg) | ((with_reducible refine gate_dst (N := 3) rfl ?_); refine box_event ?hg (N := 3) ?hd (cs := #[.slice A1_0 l1_0.length c1_0, .slice A1_1 l1_1.length c1_1]) (t := 66) ?hr ?_; (case hd => rfl); (case hg => rfl); (case hr => first | (go_simp; done) | (go_simp; rfl)); intro gb555 hg w7 hbox hb; have BK555 := aM hbox; have GW555 := aM ((by rw [hg]; exact (below_size (by repeat (first | (with_reducible first | exact HB.out | apply bA | apply bN | apply b1 | refine bS ?_ GE554.out) | exact HB.out))) : w.heap.size ≤ gb555)); have GE555 := aM ((by rw [hg]; exact (below_size (by repeat (first | (with_reducible first | exact HB.out | apply bA | apply bN | apply b1 | refine bS ?_ GE554.out) | exact HB.out))) : w.heap.size ≤ gb555)); replace HB := aM (below_step (by repeat (first | (with_reducible first | exact HB.out | apply bA | apply bN | apply b1 | refine bS ?_ GE554.out) | exact HB.out)) hb); have NB554_555 := aM ((by rw [hg]; exact Nat.ne_of_lt (blk_lt (g := gb554) (o := .cells #[.slice A0_0 l0_0.length c0_0, .slice A0_1 l0_1.length c0_1] 66 (0, 0)) (by (with_reducible repeat (first | refine kN ?_ _ | refine kD ?_ | refine kA ?_ _)); exact BK554.out)) : gb554 ≠ gb555)); have NB555_554 := aM ((by rw [hg]; exact Nat.ne_of_gt (blk_lt (g := gb554) (o := .cells #[.slice A0_0 l0_0.length c0_0, .slice A0_1 l0_1.length c0_1] 66 (0, 0)) (by (with_reducible repeat (first | refine kN ?_ _ | refine kD ?_ | refine kA ?_ _)); exact BK554.out)) : gb555 ≠ gb554)); replace BK554 := aM (blk_below (g := gb554) (o := .cells #[.slice A0_0 l0_0.length c0_0, .slice A0_1 l0_1.length c0_1] 66 (0, 0)) (by (with_reducible repeat (first | refine kN ?_ _ | refine kD ?_ | refine kA ?_ _)); exact BK554.out) hb); clear hb hbox hg; have hnb8 := NB554_555.out; have hnc8 := NB555_554.out; have hcz9_0 : w7.cell? ⟨gb554, 0, none⟩ = some (.slice A0_0 l0_0.length c0_0) := (blk_cell BK554.out 0).trans rfl; have hcz9_1 : w7.cell? ⟨gb554, 1, none⟩ = some (.slice A0_1 l0_1.length c0_1) := (blk_cell BK554.out 1).trans rfl; have hfz9_0 := blk_frozen BK554.out 0; have hfz9_1 := blk_frozen BK554.out 1; have hcz10_0 : w7.cell? ⟨gb555, 0, none⟩ = some (.slice A1_0 l1_0.length c1_0) := (blk_cell BK555.out 0).trans rfl; have hcz10_1 : w7.cell? ⟨gb555, 1, none⟩ = some (.slice A1_1 l1_1.length c1_1) := (blk_cell BK555.out 1).trans rfl; have hfz10_0 := blk_frozen BK555.out 0; have hfz10_1 := blk_frozen BK555.out 1) | (go_at_call 107; (with_reducible refine (spec_l1Divisor.calls k (l0_1.length : Int) (l1_1.length : Int) t556 _ A3.out).mono ?_); rintro e w' ⟨rfl, ⟨nd, rfl⟩⟩; (try first | exact ⟨rfl, _, World.drewN_drewN _ _ _⟩ | exact ⟨rfl, _, Eq.trans (World.drewN_drewN _ _ _) (congrArg (World.drewN _) (Nat.add_assoc _ _ _))⟩)))
  repeat (go_quiet (first | ((with_reducible refine gate_dst (N := 2) rfl ?_); refine box_event ?hg (N := 2) ?hd (cs := #[.slice A0_0 l0_0.length c0_0, .slice A0_1 l0_1.length c0_1]) (t := 66) ?hr ?_; (case hd => rfl); (case hg => rfl); (case hr => first | (go_simp; done) | (go_simp; rfl)); intro gb554 hg w6 hbox hb; have BK554 := aM hbox; have GW554 := aM ((by rw [hg]; exact (below_size (by repeat (first | (with_reducible first | exact HB.out | apply bA | apply bN | apply b1) | exact HB.out))) : w.heap.size ≤ gb554)); have GE554 := aM ((by rw [hg]; exact (below_size (by repeat (first | (with_reducible first | exact HB.out | apply bA | apply bN | apply b1) | exact HB.out))) : w.heap.size ≤ gb554)); replace HB := aM (below_step (by repeat (first | (with_reducible first | exact HB.out | apply bA | apply bN | apply b1) | exact HB.out)) hb); clear hb hbox hg) | ((with_reducible refine gate_dst (N := 3) rfl ?_); refine box_event ?hg (N := 3) ?hd (cs := #[.slice A1_0 l1_0.length c1_0, .slice A1_1 l1_1.length c1_1]) (t := 66) ?hr ?_; (case hd => rfl); (case hg => rfl); (case hr => first | (go_simp; done) | (go_simp; rfl)); intro gb555 hg w7 hbox hb; have BK555 := aM hbox; have GW555 := aM ((by rw [hg]; exact (below_size (by repeat (first | (with_reducible first | exact HB.out | apply bA | apply bN | apply b1 | refine bS ?_ GE554.out) | exact HB.out))) : w.heap.size ≤ gb555)); have GE555 := aM ((by rw [hg]; exact (below_size (by repeat (first | (with_reducible first | exact HB.out | apply bA | apply bN | apply b1 | refine bS ?_ GE554.out) | exact HB.out))) : w.heap.size ≤ gb555)); replace HB := aM (below_step (by repeat (first | (with_reducible first | exact HB.out | apply bA | apply bN | apply b1 | refine bS ?_ GE554.out) | exact HB.out)) hb); have NB554_555 := aM ((by rw [hg]; exact Nat.ne_of_lt (blk_lt (g := gb554) (o := .cells #[.slice A0_0 l0_0.length c0_0, .slice A0_1 l0_1.length c0_1] 66 (0, 0)) (by (with_reducible repeat (first | refine kN ?_ _ | refine kD ?_ | refine kA ?_ _)); exact BK554.out)) : gb554 ≠ gb555)); have NB555_554 := aM ((by rw [hg]; exact Nat.ne_of_gt (blk_lt (g := gb554) (o := .cells #[.slice A0_0 l0_0.length c0_0, .slice A0_1 l0_1.length c0_1] 66 (0, 0)) (by (with_reducible repeat (first | refine kN ?_ _ | refine kD ?_ | refine kA ?_ _)); exact BK554.out)) : gb555 ≠ gb554)); replace BK554 := aM (blk_below (g := gb554) (o := .cells #[.slice A0_0 l0_0.length c0_0, .slice A0_1 l0_1.length c0_1] 66 (0, 0)) (by (with_reducible repeat (first | refine kN ?_ _ | refine kD ?_ | refine kA ?_ _)); exact BK554.out) hb); clear hb hbox hg; have hnb8 := NB554_555.out; have hnc8 := NB555_554.out; have hcz9_0 : w7.cell? ⟨gb554, 0, none⟩ = some (.slice A0_0 l0_0.length c0_0) := (blk_cell BK554.out 0).trans rfl; have hcz9_1 : w7.cell? ⟨gb554, 1, none⟩ = some (.slice A0_1 l0_1.length c0_1) := (blk_cell BK554.out 1).trans rfl; have hfz9_0 := blk_frozen BK554.out 0; have hfz9_1 := blk_frozen BK554.out 1; have hcz10_0 : w7.cell? ⟨gb555, 0, none⟩ = some (.slice A1_0 l1_0.length c1_0) := (blk_cell BK555.out 0).trans rfl; have hcz10_1 : w7.cell? ⟨gb555, 1, none⟩ = some (.slice A1_1 l1_1.length c1_1) := (blk_cell BK555.out 1).trans rfl; have hfz10_0 := blk_frozen BK555.out 0; have hfz10_1 := blk_frozen BK555.out 1) | (go_at_call 107; (with_reducible refine (spec_l1Divisor.calls k (l0_1.length : Int) (l1_1.length : Int) t556 _ A3.out).mono ?_); rintro e w' ⟨rfl, ⟨nd, rfl⟩⟩; (try first | exact ⟨rfl, _, World.drewN_drewN _ _ _⟩ | exact ⟨rfl, _, Eq.trans (World.drewN_drewN _ _ _) (congrArg (World.drewN _) (Nat.add_assoc _ _ _))⟩))); try go_wp2_with (first | ((with_reducible refine gate_dst (N := 2) rfl ?_); refine box_event ?hg (N := 2) ?hd (cs := #[.slice A0_0 l0_0.length c0_0, .slice A0_1 l0_1.length c0_1]) (t := 66) ?hr ?_; (case hd => rfl); (case hg => rfl); (case hr => first | (go_simp; done) | (go_simp; rfl)); intro gb554 hg w6 hbox hb; have BK554 := aM hbox; have GW554 := aM ((by rw [hg]; exact (below_size (by repeat (first | (with_reducible first | exact HB.out | apply bA | apply bN | apply b1) | exact HB.out))) : w.heap.size ≤ gb554)); have GE554 := aM ((by rw [hg]; exact (below_size (by repeat (first | (with_reducible first | exact HB.out | apply bA | apply bN | apply b1) | exact HB.out))) : w.heap.size ≤ gb554)); replace HB := aM (below_step (by repeat (first | (with_reducible first | exact HB.out | apply bA | apply bN | apply b1) | exact HB.out)) hb); clear hb hbox hg) | ((with_reducible refine gate_dst (N := 3) rfl ?_); refine box_event ?hg (N := 3) ?hd (cs := #[.slice A1_0 l1_0.length c1_0, .slice A1_1 l1_1.length c1_1]) (t := 66) ?hr ?_; (case hd => rfl); (case hg => rfl); (case hr => first | (go_simp; done) | (go_simp; rfl)); intro gb555 hg w7 hbox hb; have BK555 := aM hbox; have GW555 := aM ((by rw [hg]; exact (below_size (by repeat (first | (with_reducible first | exact HB.out | apply bA | apply bN | apply b1 | refine bS ?_ GE554.out) | exact HB.out))) : w.heap.size ≤ gb555)); have GE555 := aM ((by rw [hg]; exact (below_size (by repeat (first | (with_reducible first | exact HB.out | apply bA | apply bN | apply b1 | refine bS ?_ GE554.out) | exact HB.out))) : w.heap.size ≤ gb555)); replace HB := aM (below_step (by repeat (first | (with_reducible first | exact HB.out | apply bA | apply bN | apply b1 | refine bS ?_ GE554.out) | exact HB.out)) hb); have NB554_555 := aM ((by rw [hg]; exact Nat.ne_of_lt (blk_lt (g := gb554) (o := .cells #[.slice A0_0 l0_0.length c0_0, .slice A0_1 l0_1.length c0_1] 66 (0, 0)) (by (with_reducible repeat (first | refine kN ?_ _ | refine kD ?_ | refine kA ?_ _)); exact BK554.out)) : gb554 ≠ gb555)); have NB555_554 := aM ((by rw [hg]; exact Nat.ne_of_gt (blk_lt (g := gb554) (o := .cells #[.slice A0_0 l0_0.length c0_0, .slice A0_1 l0_1.length c0_1] 66 (0, 0)) (by (with_reducible repeat (first | refine kN ?_ _ | refine kD ?_ | refine kA ?_ _)); exact BK554.out)) : gb555 ≠ gb554)); replace BK554 := aM (blk_below (g := gb554) (o := .cells #[.slice A0_0 l0_0.length c0_0, .slice A0_1 l0_1.length c0_1] 66 (0, 0)) (by (with_reducible repeat (first | refine kN ?_ _ | refine kD ?_ | refine kA ?_ _)); exact BK554.out) hb); clear hb hbox hg; have hnb8 := NB554_555.out; have hnc8 := NB555_554.out; have hcz9_0 : w7.cell? ⟨gb554, 0, none⟩ = some (.slice A0_0 l0_0.length c0_0) := (blk_cell BK554.out 0).trans rfl; have hcz9_1 : w7.cell? ⟨gb554, 1, none⟩ = some (.slice A0_1 l0_1.length c0_1) := (blk_cell BK554.out 1).trans rfl; have hfz9_0 := blk_frozen BK554.out 0; have hfz9_1 := blk_frozen BK554.out 1; have hcz10_0 : w7.cell? ⟨gb555, 0, none⟩ = some (.slice A1_0 l1_0.length c1_0) := (blk_cell BK555.out 0).trans rfl; have hcz10_1 : w7.cell? ⟨gb555, 1, none⟩ = some (.slice A1_1 l1_1.length c1_1) := (blk_cell BK555.out 1).trans rfl; have hfz10_0 := blk_frozen BK555.out 0; have hfz10_1 := blk_frozen BK555.out 1) | (go_at_call 107; (with_reducible refine (spec_l1Divisor.calls k (l0_1.length : Int) (l1_1.length : Int) t556 _ A3.out).mono ?_); rintro e w' ⟨rfl, ⟨nd, rfl⟩⟩; (try first | exact ⟨rfl, _, World.drewN_drewN _ _ _⟩ | exact ⟨rfl, _, Eq.trans (World.drewN_drewN _ _ _) (congrArg (World.drewN _) (Nat.add_assoc _ _ _))⟩))))
  go_ret2
  exact ⟨by first | rfl | (simp [errW_none, errW_some] <;> rfl) | (simp [errW_none, errW_some]; exact ⟨rfl, rfl⟩) | (simp [errW_none, errW_some]; exact ⟨rfl, rfl, rfl⟩) | (simp only [← hji5]; first | rfl | (simp [errW_none, errW_some] <;> rfl) | (simp [errW_none, errW_some]; exact ⟨rfl, rfl⟩) | (simp [errW_none, errW_some]; exact ⟨rfl, rfl, rfl⟩)) | (simp [*, errW_none, errW_some] <;> rfl), by repeat (first | (with_reducible first | exact HB.out | apply bA | apply bN | apply b1 | refine bS ?_ GE554.out | refine bS ?_ GE555.out) | exact HB.out)⟩


mutual
def spec_l4Sum.l0 : Nat → Bool → Int → Int → List Bool → Int → List Bool → List Bool → List Bool → List Bool → Option (ByteArray × Bool)
 | 0, _, _, _, _, _, _, _, _, _ => none
 | k + 1, x2, x8, x9, x10, x11, x558000, x558001, x559000, x559001 => if x11 < (wrap64 (x8 + x9)) then (spec_l4Sum.l1 k x2 x8 x9 x10 x11 false 0 x558000 x558001 x559000 x559001) else ((spec_l2Fill.f k x10 x8).bind fun bt564 => (some (bt564.1, bt564.2)))
def spec_l4Sum.l1 : Nat → Bool → Int → Int → List Bool → Int → Bool → Int → List Bool → List Bool → List Bool → List Bool → Option (ByteArray × Bool)
 | 0, _, _, _, _, _, _, _, _, _, _, _ => none
 | k + 1, x2, x8, x9, x10, x11, x12, x13, x558000, x558001, x559000, x559001 => if x13 ≤ x11 then (if x12 = true then (spec_l4Sum.l1 k x2 x8 x9 x10 x11 true (wrap64 (x13 + 1)) x558000 x558001 x559000 x559001) else ((spec_l1Has.f x558000 x558001 x13).bind fun t566 => (if t566 = true then ((spec_l1Has.f x559000 x559001 (wrap64 (x11 - x13))).bind fun t567 => (if t567 = true then (if x2 = true then (spec_l4Sum.l1 k x2 x8 x9 x10 x11 (x13 != (wrap64 (x11 - x13))) (wrap64 (x13 + 1)) x558000 x558001 x559000 x559001) else (spec_l4Sum.l1 k x2 x8 x9 x10 x11 true (wrap64 (x13 + 1)) x558000 x558001 x559000 x559001)) else (spec_l4Sum.l1 k x2 x8 x9 x10 x11 false (wrap64 (x13 + 1)) x558000 x558001 x559000 x559001))) else (spec_l4Sum.l1 k x2 x8 x9 x10 x11 false (wrap64 (x13 + 1)) x558000 x558001 x559000 x559001)))) else (if x10.length < 140737488355328 then (spec_l4Sum.l0 k x2 x8 x9 (x10 ++ [x12]) (wrap64 (x11 + 1)) x558000 x558001 x559000 x559001) else (none))
end
def spec_l4Sum.f (k : Nat) (l0_0 : List Bool) (l0_1 : List Bool) (l1_0 : List Bool) (l1_1 : List Bool) (a2 : Bool) : Option (ByteArray × Bool) := (spec_l1Shape.f k l0_0 l0_1 l1_0 l1_1).bind fun bt559 => (spec_l4Sum.l0 k a2 (wrap64 ((wrap64 ((wrap64 (2 * bt559.1)) + (wrap64 (3 * bt559.2)))) + 2)) bt559.2 (([] : List Bool)) 0 l0_0 l0_1 l1_0 l1_1)
theorem spec_l4Sum.mono_l : ∀ k, (∀ y0 y1 y2 y3 y4 y5 y6 y7 y8, LeO (spec_l4Sum.l0 k y0 y1 y2 y3 y4 y5 y6 y7 y8) (spec_l4Sum.l0 (k + 1) y0 y1 y2 y3 y4 y5 y6 y7 y8)) ∧ (∀ y0 y1 y2 y3 y4 y5 y6 y7 y8 y9 y10, LeO (spec_l4Sum.l1 k y0 y1 y2 y3 y4 y5 y6 y7 y8 y9 y10) (spec_l4Sum.l1 (k + 1) y0 y1 y2 y3 y4 y5 y6 y7 y8 y9 y10))
 | 0 => ⟨fun _ _ _ _ _ _ _ _ _ r h => by simp [spec_l4Sum.l0] at h, fun _ _ _ _ _ _ _ _ _ _ _ r h => by simp [spec_l4Sum.l1] at h⟩
 | k + 1 => by
  obtain ⟨ih0, ih1⟩ := spec_l4Sum.mono_l k
  refine ⟨?_, ?_⟩
  ·intro y0 y1 y2 y3 y4 y5 y6 y7 y8
   unfold spec_l4Sum.l0
   repeat' first | (with_reducible exact ih1 _ _ _ _ _ _ _ _ _ _ _) | (with_reducible exact spec_l2Fill.mono _ _ _) | (with_reducible exact LeO.refl _) | (with_reducible refine LeO.ite ?_ ?_) | (with_reducible refine LeO.bind ?_ (fun _ => ?_))
  ·intro y0 y1 y2 y3 y4 y5 y6 y7 y8 y9 y10
   unfold spec_l4Sum.l1
   repeat' first | (with_reducible exact ih0 _ _ _ _ _ _ _ _ _) | (with_reducible exact ih1 _ _ _ _ _ _ _ _ _ _ _) | (with_reducible exact LeO.refl _) | (with_reducible refine LeO.ite ?_ ?_) | (with_reducible refine LeO.bind ?_ (fun _ => ?_))
theorem spec_l4Sum.mono : ∀ a0 a1 a2 a3 a4 k, LeO (spec_l4Sum.f k a0 a1 a2 a3 a4) (spec_l4Sum.f (k + 1) a0 a1 a2 a3 a4) := by
 intro a0 a1 a2 a3 a4 k
 obtain ⟨ih0, ih1⟩ := spec_l4Sum.mono_l k
 unfold spec_l4Sum.f
 repeat' first | (with_reducible exact ih0 _ _ _ _ _ _ _ _ _) | (with_reducible exact spec_l1Shape.mono _ _ _ _ _) | (with_reducible refine LeO.bind ?_ (fun _ => ?_))
set_option maxHeartbeats 8000000 in
set_option maxRecDepth 100000 in
theorem spec_l4Sum.calls (k : Nat) (A0_0 : Option Addr) (c0_0 : Nat) (l0_0 : List Bool) (A0_1 : Option Addr) (c0_1 : Nat) (l0_1 : List Bool) (A1_0 : Option Addr) (c1_0 : Nat) (l1_0 : List Bool) (A1_1 : Option Addr) (c1_1 : Nat) (l1_1 : List Bool) (a2 : Bool) (r1 : ByteArray) (r2 : Bool) (w : World) (hr0_0 : Kd.C Kd.bool w A0_0 l0_0.length l0_0) (hc0_0 : l0_0.length ≤ c0_0) (hr0_1 : Kd.C Kd.bool w A0_1 l0_1.length l0_1) (hc0_1 : l0_1.length ≤ c0_1) (hr1_0 : Kd.C Kd.bool w A1_0 l1_0.length l1_0) (hc1_0 : l1_0.length ≤ c1_0) (hr1_1 : Kd.C Kd.bool w A1_1 l1_1.length l1_1) (hc1_1 : l1_1.length ≤ c1_1) (h : spec_l4Sum.f k l0_0 l0_1 l1_0 l1_1 a2 = some (r1, r2)) :
  Calls Try.prog 106 #[.agg #[.slice A0_0 l0_0.length c0_0, .slice A0_1 l0_1.length c0_1], .agg #[.slice A1_0 l1_0.length c1_0, .slice A1_1 l1_1.length c1_1], .bool a2] w fun e w' => e = .returned (.tuple #[.string r1, .bool r2]) ∧ Below w.heap.size w w' := by
 have hu66 := Try.underlying66
 have HR0_0 := aM hr0_0
 have HC0_0 := aM hc0_0
 clear hr0_0 hc0_0
 have HR0_1 := aM hr0_1
 have HC0_1 := aM hc0_1
 clear hr0_1 hc0_1
 have HR1_0 := aM hr1_0
 have HC1_0 := aM hc1_0
 clear hr1_0 hc1_0
 have HR1_1 := aM hr1_1
 have HC1_1 := aM hc1_1
 clear hr1_1 hc1_1
 have HB := aM (Below.refl w.heap.size w)
 have H : ((spec_l1Shape.f k l0_0 l0_1 l1_0 l1_1).bind fun bt559 => (spec_l4Sum.l0 k a2 (wrap64 ((wrap64 ((wrap64 (2 * bt559.1)) + (wrap64 (3 * bt559.2)))) + 2)) bt559.2 (([] : List Bool)) 0 l0_0 l0_1 l1_0 l1_1)) = some (r1, r2) := h
 clear h
 replace H := Option.bind_eq_some_iff.mp H
 obtain ⟨⟨t559, t560⟩, A40, H⟩ := H
 replace H : (spec_l4Sum.l0 k a2 (wrap64 ((wrap64 ((wrap64 (2 * t559)) + (wrap64 (3 * t560)))) + 2)) t560 (([] : List Bool)) 0 l0_0 l0_1 l1_0 l1_1) = some (r1, r2) := H
 have A4 := aM A40
 clear A40
 obtain ⟨y561, hy561⟩ : ∃ y_ : List Bool, y_ = (([] : List Bool)) := ⟨_, rfl⟩
 replace H : (spec_l4Sum.l0 k a2 (wrap64 ((wrap64 ((wrap64 (2 * t559)) + (wrap64 (3 * t560)))) + 2)) t560 y561 0 l0_0 l0_1 l1_0 l1_1) = some (r1, r2) := by first | (rw [hy561]; with_reducible exact H)
 have Ny561 := aM hy561
 clear hy561
 have H' := aM H
 clear H
 go_enter Try.func106, Try.ntmps106
 go_wp2_with (first | ((with_reducible refine gate_dst (N := 3) rfl ?_); refine box_event ?hg (N := 3) ?hd (cs := #[.slice A0_0 l0_0.length c0_0, .slice A0_1 l0_1.length c0_1]) (t := 66) ?hr ?_; (case hd => rfl); (case hg => rfl); (case hr => first | (go_simp; done)); intro gb557 hg w5 hbox hb; have BK557 := aM hbox; have GW557 := aM ((by rw [hg]; exact (below_size HB.out) : w.heap.size ≤ gb557)); have GE557 := aM ((by rw [hg]; exact (below_size HB.out) : w.heap.size ≤ gb557)); replace HB := aM (below_step HB.out hb); clear hb hbox hg) | ((with_reducible refine gate_dst (N := 4) rfl ?_); refine box_event ?hg (N := 4) ?hd (cs := #[.slice A1_0 l1_0.length c1_0, .slice A1_1 l1_1.length c1_1]) (t := 66) ?hr ?_; (case hd => rfl); (case hg => rfl); (case hr => first | (go_simp; done)); intro gb558 hg w6 hbox hb; have BK558 := aM hbox; have GW558 := aM ((by rw [hg]; exact (below_size HB.out) : w.heap.size ≤ gb558)); have GE558 := aM ((by rw [hg]; exact (below_size HB.out) : w.heap.size ≤ gb558)); replace HB := aM (below_step HB.out hb); have NB557_558 := aM ((by rw [hg]; exact Nat.ne_of_lt (blk_lt (g := gb557) (o := .cells #[.slice A0_0 l0_0.length c0_0, .slice A0_1 l0_1.length c0_1] 66 (0, 0)) BK557.out) : gb557 ≠ gb558)); have NB558_557 := aM ((by rw [hg]; exact Nat.ne_of_gt (blk_lt (g := gb557) (o := .cells #[.slice A0_0 l0_0.length c0_0, .slice A0_1 l0_1.length c0_1] 66 (0, 0)) BK557.out) : gb558 ≠ gb557)); replace BK557 := aM (blk_below (g := gb557) (o := .cells #[.slice A0_0 l0_0.length c0_0, .slice A0_1 l0_1.length c0_1] 66 (0, 0)) BK557.out hb); clear hb hbox hg; have hnb7 := NB557_558.out; have hnc7 := NB558_557.out; have hcz8_0 : w6.cell? ⟨gb557, 0, none⟩ = some (.slice A0_0 l0_0.length c0_0) := (blk_cell BK557.out 0).trans rfl; have hcz8_1 : w6.cell? ⟨gb557, 1, none⟩ = some (.slice A0_1 l0_1.length c0_1) := (blk_cell BK557.out 1).trans rfl; have hfz8_0 := blk_frozen BK557.out 0; have hfz8_1 := blk_frozen BK557.out 1; have hcz9_0 : w6.cell? ⟨gb558, 0, none⟩ = some (.slice A1_0 l1_0.length c1_0) := (blk_cell BK558.out 0).trans rfl; have hcz9_1 : w6.cell? ⟨gb558, 1, none⟩ = some (.slice A1_1 l1_1.length c1_1) := (blk_cell BK558.out 1).trans rfl; have hfz9_0 := blk_frozen BK558.out 0; have hfz9_1 := blk_frozen BK558.out 1) | ((with_reducible refine gate_callee (f := 66) rfl ?_); refine goesL_ (some 17) rfl rfl Try.func66 (by kernel_rfl) rfl #[.agg #[.slice A0_0 l0_0.length c0_0, .slice A0_1 l0_1.length c0_1], .agg #[.slice A1_0 l1_0.length c1_0, .slice A1_1 l1_1.length c1_1]] rfl (by (try simp only [List.map_toArray, List.map_cons, List.map_nil]); rfl) ?_; (with_reducible refine (spec_l1Shape.calls k _ _ l0_0 _ _ l0_1 _ _ l1_0 _ _ l1_1 t559 t560 _ ?side1 ?side2 ?side3 ?side4 ?side5 ?side6 ?side7 ?side8 A4.out).mono ?_); (case side1 => repeat (exact (Kd.C_below HR0_0.out HB.out))); (case side2 => exact HC0_0.out); (case side3 => repeat (exact (Kd.C_below HR0_1.out HB.out))); (case side4 => exact HC0_1.out); (case side5 => repeat (exact (Kd.C_below HR1_0.out HB.out))); (case side6 => exact HC1_0.out); (case side7 => repeat (exact (Kd.C_below HR1_1.out HB.out))); (case side8 => exact HC1_1.out); rintro e w10 ⟨rfl, hb⟩; refine ⟨_, rfl, ?_⟩; replace BK557 := aM (blk_below (g := gb557) (o := .cells #[.slice A0_0 l0_0.length c0_0, .slice A0_1 l0_1.length c0_1] 66 (0, 0)) BK557.out hb); replace BK558 := aM (blk_below (g := gb558) (o := .cells #[.slice A1_0 l1_0.length c1_0, .slice A1_1 l1_1.length c1_1] 66 (0, 0)) BK558.out hb); replace HB := aM (below_step HB.out hb); (try clear hb)) | ((with_reducible refine gate_dst (N := 26) rfl ?_); refine Kd.R_lit Kd.bool _ 4 ?hg (N := 26) ?hd (xs := ([] : List Bool)) (inner := []) (ok := fun _ => True) (okp := fun _ => True) ?hr ?hp (fun _ hk => hk) trivial (Below.refl _ _) (Nat.le_refl _) (by simp) ?_; (case hd => rfl); (case hg => rfl); (case hr => first | (go_simp; done)); (case hp => exact (Reps.none _ _)); intro v562 w11 ho12 hb hg_ hnew_; clear hg_ hnew_; (rw [← Ny561.out] at ho12); have HO563 := aM (Kd.R_lower ho12 (below_size HB.out)); replace BK557 := aM (blk_below (g := gb557) (o := .cells #[.slice A0_0 l0_0.length c0_0, .slice A0_1 l0_1.length c0_1] 66 (0, 0)) BK557.out hb); replace BK558 := aM (blk_below (g := gb558) (o := .cells #[.slice A1_0 l1_0.length c1_0, .slice A1_1 l1_1.length c1_1] 66 (0, 0)) BK558.out hb); replace HB := aM (below_step HB.out hb); clear hb ho12))
 go_loopg [10, 11] k (fun kq v10 v11 w' => ∃ (x10_1 : List Bool) (x11_1 : Int), v11 = .int .i64 x11_1 ∧ Aside0 (spec_l4Sum.l0 kq a2 (wrap64 ((wrap64 ((wrap64 (2 * t559)) + (wrap64 (3 * t560)))) + 2)) t560 x10_1 x11_1 l0_0 l0_1 l1_0 l1_1 = some (r1, r2)) ∧ Aside0 (kq ≤ k) ∧ Aside0 (Kd.R Kd.bool 4 w' w.heap.size (fun _ => True) v10 x10_1) ∧ Aside0 (w'.heap[gb557]? = some (.cells #[(.slice A0_0 l0_0.length c0_0), (.slice A0_1 l0_1.length c0_1)] 66 (0, 0))) ∧ Aside0 (w'.heap[gb558]? = some (.cells #[(.slice A1_0 l1_0.length c1_0), (.slice A1_1 l1_1.length c1_1)] 66 (0, 0))) ∧ Aside0 (Below w.heap.size w w'))
 case atStart => exact ⟨(y561), (0), (by rfl), H', ⟨Nat.le_refl _⟩, ⟨by exact HO563.out⟩, ⟨by exact BK557.out⟩, ⟨by exact BK558.out⟩, ⟨HB.out⟩⟩
 case round =>
  clear H'
  try clear hcz8_0
  try clear hcz8_1
  try clear hcz9_0
  try clear hcz9_1
  try clear hfz8_0
  try clear hfz8_1
  try clear hfz9_0
  try clear hfz9_1
  obtain ⟨x10_1, x11_1, rfl, HA, HK1, HO_10, BK557, BK558, HB⟩ := hrel
  cases gk with
  | zero => exact absurd HA.out (by simp [spec_l4Sum.l0])
  | succ k1 =>
   have H := HA.out
   clear HA
   simp only [spec_l4Sum.l0] at H
   by_cases c13 : x11_1 < (wrap64 ((wrap64 ((wrap64 ((wrap64 (2 * t559)) + (wrap64 (3 * t560)))) + 2)) + t560))
   ·rw [if_pos c13] at H
    have c13b0 : decide (x11_1 < (wrap64 ((wrap64 ((wrap64 ((wrap64 (2 * t559)) + (wrap64 (3 * t560)))) + 2)) + t560))) = true := decide_eq_true c13
    clear c13
    have H' := aM H
    clear H
    go_wp2
    go_loopg [12, 13] k1 (fun kq v12 v13 w' => ∃ (x12_2 : Bool) (x13_2 : Int), v12 = .bool x12_2 ∧ v13 = .int .i64 x13_2 ∧ Aside0 (spec_l4Sum.l1 kq a2 (wrap64 ((wrap64 ((wrap64 (2 * t559)) + (wrap64 (3 * t560)))) + 2)) t560 x10_1 x11_1 x12_2 x13_2 l0_0 l0_1 l1_0 l1_1 = some (r1, r2)) ∧ Aside0 (kq ≤ k1) ∧ Aside0 (Kd.R Kd.bool 4 w' w.heap.size (fun _ => True) u10 x10_1) ∧ Aside0 (w'.heap[gb557]? = some (.cells #[(.slice A0_0 l0_0.length c0_0), (.slice A0_1 l0_1.length c0_1)] 66 (0, 0))) ∧ Aside0 (w'.heap[gb558]? = some (.cells #[(.slice A1_0 l1_0.length c1_0), (.slice A1_1 l1_1.length c1_1)] 66 (0, 0))) ∧ Aside0 (Below w.heap.size w w'))
    case atStart => exact ⟨(false), (0), (by rfl), (by rfl), H', ⟨Nat.le_refl _⟩, ⟨by exact HO_10.out⟩, ⟨by exact BK557.out⟩, ⟨by exact BK558.out⟩, ⟨HB.out⟩⟩
    case round =>
     clear H'
     try clear c13b0
     obtain ⟨x12_2, x13_2, rfl, rfl, HA, HK2, HO_10, BK557, BK558, HB⟩ := hrel
     cases gk with
     | zero => exact absurd HA.out (by simp [spec_l4Sum.l1])
     | succ k2 =>
      have H := HA.out
      clear HA
      simp only [spec_l4Sum.l1] at H
      by_cases c14 : x13_2 ≤ x11_1
      ·rw [if_pos c14] at H
       have c14b0 : decide (x13_2 ≤ x11_1) = true := decide_eq_true c14
       clear c14
       by_cases c15 : x12_2 = true
       ·subst c15
        replace H : (spec_l4Sum.l1 k2 a2 (wrap64 ((wrap64 ((wrap64 (2 * t559)) + (wrap64 (3 * t560)))) + 2)) t560 x10_1 x11_1 true (wrap64 (x13_2 + 1)) l0_0 l0_1 l1_0 l1_1) = some (r1, r2) := by rw [if_pos rfl] at H; exact H
        have H' := aM H
        clear H
        go_wp2
        go_roundg k2
        case measure => have := HK1.out; have := HK2.out; omega
        case rel => exact ⟨(true), (wrap64 (x13_2 + 1)), (by rfl), (by rfl), H', ⟨by have := HK1.out; have := HK2.out; omega⟩, ⟨by exact HO_10.out⟩, ⟨by exact BK557.out⟩, ⟨by exact BK558.out⟩, ⟨HB.out⟩⟩
       ·replace c15 := Bool.eq_false_iff.mpr c15
        subst c15
        replace H : ((spec_l1Has.f l0_0 l0_1 x13_2).bind fun t566 => (if t566 = true then ((spec_l1Has.f l1_0 l1_1 (wrap64 (x11_1 - x13_2))).bind fun t567 => (if t567 = true then (if a2 = true then (spec_l4Sum.l1 k2 a2 (wrap64 ((wrap64 ((wrap64 (2 * t559)) + (wrap64 (3 * t560)))) + 2)) t560 x10_1 x11_1 (x13_2 != (wrap64 (x11_1 - x13_2))) (wrap64 (x13_2 + 1)) l0_0 l0_1 l1_0 l1_1) else (spec_l4Sum.l1 k2 a2 (wrap64 ((wrap64 ((wrap64 (2 * t559)) + (wrap64 (3 * t560)))) + 2)) t560 x10_1 x11_1 true (wrap64 (x13_2 + 1)) l0_0 l0_1 l1_0 l1_1)) else (spec_l4Sum.l1 k2 a2 (wrap64 ((wrap64 ((wrap64 (2 * t559)) + (wrap64 (3 * t560)))) + 2)) t560 x10_1 x11_1 false (wrap64 (x13_2 + 1)) l0_0 l0_1 l1_0 l1_1))) else (spec_l4Sum.l1 k2 a2 (wrap64 ((wrap64 ((wrap64 (2 * t559)) + (wrap64 (3 * t560)))) + 2)) t560 x10_1 x11_1 false (wrap64 (x13_2 + 1)) l0_0 l0_1 l1_0 l1_1))) = some (r1, r2) := by rw [if_neg (show ¬ (false = true) by decide)] at H; exact H
        replace H := Option.bind_eq_some_iff.mp H
        obtain ⟨t566, A160, H⟩ := H
        replace H : (if t566 = true then ((spec_l1Has.f l1_0 l1_1 (wrap64 (x11_1 - x13_2))).bind fun t567 => (if t567 = true then (if a2 = true then (spec_l4Sum.l1 k2 a2 (wrap64 ((wrap64 ((wrap64 (2 * t559)) + (wrap64 (3 * t560)))) + 2)) t560 x10_1 x11_1 (x13_2 != (wrap64 (x11_1 - x13_2))) (wrap64 (x13_2 + 1)) l0_0 l0_1 l1_0 l1_1) else (spec_l4Sum.l1 k2 a2 (wrap64 ((wrap64 ((wrap64 (2 * t559)) + (wrap64 (3 * t560)))) + 2)) t560 x10_1 x11_1 true (wrap64 (x13_2 + 1)) l0_0 l0_1 l1_0 l1_1)) else (spec_l4Sum.l1 k2 a2 (wrap64 ((wrap64 ((wrap64 (2 * t559)) + (wrap64 (3 * t560)))) + 2)) t560 x10_1 x11_1 false (wrap64 (x13_2 + 1)) l0_0 l0_1 l1_0 l1_1))) else (spec_l4Sum.l1 k2 a2 (wrap64 ((wrap64 ((wrap64 (2 * t559)) + (wrap64 (3 * t560)))) + 2)) t560 x10_1 x11_1 false (wrap64 (x13_2 + 1)) l0_0 l0_1 l1_0 l1_1)) = some (r1, r2) := H
        have A16 := aM A160
        clear A160
        by_cases c17 : t566 = true
        ·subst c17
         replace H : ((spec_l1Has.f l1_0 l1_1 (wrap64 (x11_1 - x13_2))).bind fun t567 => (if t567 = true then (if a2 = true then (spec_l4Sum.l1 k2 a2 (wrap64 ((wrap64 ((wrap64 (2 * t559)) + (wrap64 (3 * t560)))) + 2)) t560 x10_1 x11_1 (x13_2 != (wrap64 (x11_1 - x13_2))) (wrap64 (x13_2 + 1)) l0_0 l0_1 l1_0 l1_1) else (spec_l4Sum.l1 k2 a2 (wrap64 ((wrap64 ((wrap64 (2 * t559)) + (wrap64 (3 * t560)))) + 2)) t560 x10_1 x11_1 true (wrap64 (x13_2 + 1)) l0_0 l0_1 l1_0 l1_1)) else (spec_l4Sum.l1 k2 a2 (wrap64 ((wrap64 ((wrap64 (2 * t559)) + (wrap64 (3 * t560)))) + 2)) t560 x10_1 x11_1 false (wrap64 (x13_2 + 1)) l0_0 l0_1 l1_0 l1_1))) = some (r1, r2) := by rw [if_pos rfl] at H; exact H
         replace H := Option.bind_eq_some_iff.mp H
         obtain ⟨t567, A180, H⟩ := H
         replace H : (if t567 = true then (if a2 = true then (spec_l4Sum.l1 k2 a2 (wrap64 ((wrap64 ((wrap64 (2 * t559)) + (wrap64 (3 * t560)))) + 2)) t560 x10_1 x11_1 (x13_2 != (wrap64 (x11_1 - x13_2))) (wrap64 (x13_2 + 1)) l0_0 l0_1 l1_0 l1_1) else (spec_l4Sum.l1 k2 a2 (wrap64 ((wrap64 ((wrap64 (2 * t559)) + (wrap64 (3 * t560)))) + 2)) t560 x10_1 x11_1 true (wrap64 (x13_2 + 1)) l0_0 l0_1 l1_0 l1_1)) else (spec_l4Sum.l1 k2 a2 (wrap64 ((wrap64 ((wrap64 (2 * t559)) + (wrap64 (3 * t560)))) + 2)) t560 x10_1 x11_1 false (wrap64 (x13_2 + 1)) l0_0 l0_1 l1_0 l1_1)) = some (r1, r2) := H
         have A18 := aM A180
         clear A180
         by_cases c19 : t567 = true
         ·subst c19
          replace H : (if a2 = true then (spec_l4Sum.l1 k2 a2 (wrap64 ((wrap64 ((wrap64 (2 * t559)) + (wrap64 (3 * t560)))) + 2)) t560 x10_1 x11_1 (x13_2 != (wrap64 (x11_1 - x13_2))) (wrap64 (x13_2 + 1)) l0_0 l0_1 l1_0 l1_1) else (spec_l4Sum.l1 k2 a2 (wrap64 ((wrap64 ((wrap64 (2 * t559)) + (wrap64 (3 * t560)))) + 2)) t560 x10_1 x11_1 true (wrap64 (x13_2 + 1)) l0_0 l0_1 l1_0 l1_1)) = some (r1, r2) := by rw [if_pos rfl] at H; exact H
          by_cases c20 : a2 = true
          all_goals
           first
           |replace c20 := Bool.eq_false_iff.mpr c20
           |skip
           subst c20
           first
           |have H1 : (spec_l4Sum.l1 k2 true (wrap64 ((wrap64 ((wrap64 (2 * t559)) + (wrap64 (3 * t560)))) + 2)) t560 x10_1 x11_1 (x13_2 != (wrap64 (x11_1 - x13_2))) (wrap64 (x13_2 + 1)) l0_0 l0_1 l1_0 l1_1) = some (r1, r2) := by rw [if_pos rfl] at H; exact H
           |have H1 : (spec_l4Sum.l1 k2 false (wrap64 ((wrap64 ((wrap64 (2 * t559)) + (wrap64 (3 * t560)))) + 2)) t560 x10_1 x11_1 true (wrap64 (x13_2 + 1)) l0_0 l0_1 l1_0 l1_1) = some (r1, r2) := by rw [if_neg (show ¬ (false = true) by decide)] at H; exact H
           clear H
           have H := H1
           clear H1
           have H' := aM H
           clear H
           have hnb21 := NB557_558.out
           have hnc21 := NB558_557.out
           have hcz22_0 : wr.cell? ⟨gb557, 0, none⟩ = some (.slice A0_0 l0_0.length c0_0) := (blk_cell BK557.out 0).trans rfl
           have hcz22_1 : wr.cell? ⟨gb557, 1, none⟩ = some (.slice A0_1 l0_1.length c0_1) := (blk_cell BK557.out 1).trans rfl
           have hfz22_0 := blk_frozen BK557.out 0
           have hfz22_1 := blk_frozen BK557.out 1
           go_wp2_with (first | (go_at_call 67; (with_reducible refine (spec_l1Has.calls _ _ l0_0 _ _ l0_1 x13_2 true _ ?side1 ?side2 ?side3 ?side4 A16.out).mono ?_); (case side1 => repeat (exact (Kd.C_below HR0_0.out HB.out))); (case side2 => exact HC0_0.out); (case side3 => repeat (exact (Kd.C_below HR0_1.out HB.out))); (case side4 => exact HC0_1.out); rintro e w23 ⟨rfl, hb⟩; replace HO_10 := aM (Kd.R_below HO_10.out hb); replace BK557 := aM (blk_below (g := gb557) (o := .cells #[.slice A0_0 l0_0.length c0_0, .slice A0_1 l0_1.length c0_1] 66 (0, 0)) BK557.out hb); replace BK558 := aM (blk_below (g := gb558) (o := .cells #[.slice A1_0 l1_0.length c1_0, .slice A1_1 l1_1.length c1_1] 66 (0, 0)) BK558.out hb); replace HB := aM (below_step HB.out hb); (try clear hb); have hcz24_0 : w23.cell? ⟨gb558, 0, none⟩ = some (.slice A1_0 l1_0.length c1_0) := (blk_cell BK558.out 0).trans rfl; have hcz24_1 : w23.cell? ⟨gb558, 1, none⟩ = some (.slice A1_1 l1_1.length c1_1) := (blk_cell BK558.out 1).trans rfl; have hfz24_0 := blk_frozen BK558.out 0; have hfz24_1 := blk_frozen BK558.out 1) | (go_at_call 67; (with_reducible refine (spec_l1Has.calls _ _ l1_0 _ _ l1_1 (wrap64 (x11_1 - x13_2)) true _ ?side1 ?side2 ?side3 ?side4 A18.out).mono ?_); (case side1 => repeat (exact (Kd.C_below HR1_0.out HB.out))); (case side2 => exact HC1_0.out); (case side3 => repeat (exact (Kd.C_below HR1_1.out HB.out))); (case side4 => exact HC1_1.out); rintro e w25 ⟨rfl, hb⟩; replace HO_10 := aM (Kd.R_below HO_10.out hb); replace BK557 := aM (blk_below (g := gb557) (o := .cells #[.slice A0_0 l0_0.length c0_0, .slice A0_1 l0_1.length c0_1] 66 (0, 0)) BK557.out hb); replace BK558 := aM (blk_below (g := gb558) (o := .cells #[.slice A1_0 l1_0.length c1_0, .slice A1_1 l1_1.length c1_1] 66 (0, 0)) BK558.out hb); replace HB := aM (below_step HB.out hb); (try clear hb)))
           go_roundg k2
           case measure => have := HK1.out; have := HK2.out; omega
           first
           |case rel => exact ⟨((x13_2 != (wrap64 (x11_1 - x13_2)))), (wrap64 (x13_2 + 1)), (by rfl), (by rfl), H', ⟨by have := HK1.out; have := HK2.out; omega⟩, ⟨by exact HO_10.out⟩, ⟨by exact BK557.out⟩, ⟨by exact BK558.out⟩, ⟨HB.out⟩⟩
           |case rel => exact ⟨(true), (wrap64 (x13_2 + 1)), (by rfl), (by rfl), H', ⟨by have := HK1.out; have := HK2.out; omega⟩, ⟨by exact HO_10.out⟩, ⟨by exact BK557.out⟩, ⟨by exact BK558.out⟩, ⟨HB.out⟩⟩
         ·replace c19 := Bool.eq_false_iff.mpr c19
          subst c19
          replace H : (spec_l4Sum.l1 k2 a2 (wrap64 ((wrap64 ((wrap64 (2 * t559)) + (wrap64 (3 * t560)))) + 2)) t560 x10_1 x11_1 false (wrap64 (x13_2 + 1)) l0_0 l0_1 l1_0 l1_1) = some (r1, r2) := by rw [if_neg (show ¬ (false = true) by decide)] at H; exact H
          have H' := aM H
          clear H
          have hnb31 := NB557_558.out
          have hnc31 := NB558_557.out
          have hcz32_0 : wr.cell? ⟨gb557, 0, none⟩ = some (.slice A0_0 l0_0.length c0_0) := (blk_cell BK557.out 0).trans rfl
          have hcz32_1 : wr.cell? ⟨gb557, 1, none⟩ = some (.slice A0_1 l0_1.length c0_1) := (blk_cell BK557.out 1).trans rfl
          have hfz32_0 := blk_frozen BK557.out 0
          have hfz32_1 := blk_frozen BK557.out 1
          go_wp2_with (first | (go_at_call 67; (with_reducible refine (spec_l1Has.calls _ _ l0_0 _ _ l0_1 x13_2 true _ ?side1 ?side2 ?side3 ?side4 A16.out).mono ?_); (case side1 => repeat (exact (Kd.C_below HR0_0.out HB.out))); (case side2 => exact HC0_0.out); (case side3 => repeat (exact (Kd.C_below HR0_1.out HB.out))); (case side4 => exact HC0_1.out); rintro e w33 ⟨rfl, hb⟩; replace HO_10 := aM (Kd.R_below HO_10.out hb); replace BK557 := aM (blk_below (g := gb557) (o := .cells #[.slice A0_0 l0_0.length c0_0, .slice A0_1 l0_1.length c0_1] 66 (0, 0)) BK557.out hb); replace BK558 := aM (blk_below (g := gb558) (o := .cells #[.slice A1_0 l1_0.length c1_0, .slice A1_1 l1_1.length c1_1] 66 (0, 0)) BK558.out hb); replace HB := aM (below_step HB.out hb); (try clear hb); have hcz34_0 : w33.cell? ⟨gb558, 0, none⟩ = some (.slice A1_0 l1_0.length c1_0) := (blk_cell BK558.out 0).trans rfl; have hcz34_1 : w33.cell? ⟨gb558, 1, none⟩ = some (.slice A1_1 l1_1.length c1_1) := (blk_cell BK558.out 1).trans rfl; have hfz34_0 := blk_frozen BK558.out 0; have hfz34_1 := blk_frozen BK558.out 1) | (go_at_call 67; (with_reducible refine (spec_l1Has.calls _ _ l1_0 _ _ l1_1 (wrap64 (x11_1 - x13_2)) false _ ?side1 ?side2 ?side3 ?side4 A18.out).mono ?_); (case side1 => repeat (exact (Kd.C_below HR1_0.out HB.out))); (case side2 => exact HC1_0.out); (case side3 => repeat (exact (Kd.C_below HR1_1.out HB.out))); (case side4 => exact HC1_1.out); rintro e w35 ⟨rfl, hb⟩; replace HO_10 := aM (Kd.R_below HO_10.out hb); replace BK557 := aM (blk_below (g := gb557) (o := .cells #[.slice A0_0 l0_0.length c0_0, .slice A0_1 l0_1.length c0_1] 66 (0, 0)) BK557.out hb); replace BK558 := aM (blk_below (g := gb558) (o := .cells #[.slice A1_0 l1_0.length c1_0, .slice A1_1 l1_1.length c1_1] 66 (0, 0)) BK558.out hb); replace HB := aM (below_step HB.out hb); (try clear hb)))
          go_roundg k2
          case measure => have := HK1.out; have := HK2.out; omega
          case rel => exact ⟨(false), (wrap64 (x13_2 + 1)), (by rfl), (by rfl), H', ⟨by have := HK1.out; have := HK2.out; omega⟩, ⟨by exact HO_10.out⟩, ⟨by exact BK557.out⟩, ⟨by exact BK558.out⟩, ⟨HB.out⟩⟩
        ·replace c17 := Bool.eq_false_iff.mpr c17
         subst c17
         replace H : (spec_l4Sum.l1 k2 a2 (wrap64 ((wrap64 ((wrap64 (2 * t559)) + (wrap64 (3 * t560)))) + 2)) t560 x10_1 x11_1 false (wrap64 (x13_2 + 1)) l0_0 l0_1 l1_0 l1_1) = some (r1, r2) := by rw [if_neg (show ¬ (false = true) by decide)] at H; exact H
         have H' := aM H
         clear H
         have hnb36 := NB557_558.out
         have hnc36 := NB558_557.out
         have hcz37_0 : wr.cell? ⟨gb557, 0, none⟩ = some (.slice A0_0 l0_0.length c0_0) := (blk_cell BK557.out 0).trans rfl
         have hcz37_1 : wr.cell? ⟨gb557, 1, none⟩ = some (.slice A0_1 l0_1.length c0_1) := (blk_cell BK557.out 1).trans rfl
         have hfz37_0 := blk_frozen BK557.out 0
         have hfz37_1 := blk_frozen BK557.out 1
         go_wp2_with (first | (go_at_call 67; (with_reducible refine (spec_l1Has.calls _ _ l0_0 _ _ l0_1 x13_2 false _ ?side1 ?side2 ?side3 ?side4 A16.out).mono ?_); (case side1 => repeat (exact (Kd.C_below HR0_0.out HB.out))); (case side2 => exact HC0_0.out); (case side3 => repeat (exact (Kd.C_below HR0_1.out HB.out))); (case side4 => exact HC0_1.out); rintro e w38 ⟨rfl, hb⟩; replace HO_10 := aM (Kd.R_below HO_10.out hb); replace BK557 := aM (blk_below (g := gb557) (o := .cells #[.slice A0_0 l0_0.length c0_0, .slice A0_1 l0_1.length c0_1] 66 (0, 0)) BK557.out hb); replace BK558 := aM (blk_below (g := gb558) (o := .cells #[.slice A1_0 l1_0.length c1_0, .slice A1_1 l1_1.length c1_1] 66 (0, 0)) BK558.out hb); replace HB := aM (below_step HB.out hb); (try clear hb)))
         go_roundg k2
         case measure => have := HK1.out; have := HK2.out; omega
         case rel => exact ⟨(false), (wrap64 (x13_2 + 1)), (by rfl), (by rfl), H', ⟨by have := HK1.out; have := HK2.out; omega⟩, ⟨by exact HO_10.out⟩, ⟨by exact BK557.out⟩, ⟨by exact BK558.out⟩, ⟨HB.out⟩⟩
      ·rw [if_neg c14] at H
       have c14b0 : decide (x13_2 ≤ x11_1) = false := decide_eq_false c14
       clear c14
       by_cases c39 : x10_1.length < 140737488355328
       ·rw [if_pos c39] at H
        have LMc39 := aM c39
        clear c39
        obtain ⟨y568, hy568⟩ : ∃ y_ : List Bool, y_ = (x10_1 ++ [x12_2]) := ⟨_, rfl⟩
        replace H : (spec_l4Sum.l0 k2 a2 (wrap64 ((wrap64 ((wrap64 (2 * t559)) + (wrap64 (3 * t560)))) + 2)) t560 y568 (wrap64 (x11_1 + 1)) l0_0 l0_1 l1_0 l1_1) = some (r1, r2) := by first | (rw [hy568]; with_reducible exact H)
        have Ny568 := aM hy568
        clear hy568
        have H' := aM H
        clear H
        go_wp2_with (first | ((with_reducible refine gate_builtin (b := .append) (xs := #[.tmp 63, .tmp 65]) rfl ?_); at_builtin; refine Kd.R_append Kd.bool (w0 := w) w.heap.size rfl (.tmp 63) (.tmp 65) 58 4 (.bool false) 1 rfl Try.underlying58 info4 rfl (by decide) (by omega) u10 x10_1 x12_2 [.bool x12_2] (fun _ => True) (fun _ => False) rfl rfl ?aP (fun _ hk => hk.elim) ?aF ?aO ?aB ?aS ?aL ?_; (case aP => exact rfl); (case aB => exact HB.out); (case aF => exact (fun _ _ => trivial)); (case aO => exact HO_10.out); (case aS => exact (below_size HB.out)); (case aL => have := LMc39.out; omega); intro v569 w40 ho hb hg hat; rw [← Ny568.out] at ho; replace BK557 := aM (blk_grown (g := gb557) (o := .cells #[.slice A0_0 l0_0.length c0_0, .slice A0_1 l0_1.length c0_1] 66 (0, 0)) BK557.out hg (Kd.R_ne HO_10.out BK557.out (by decide))); replace BK558 := aM (blk_grown (g := gb558) (o := .cells #[.slice A1_0 l1_0.length c1_0, .slice A1_1 l1_1.length c1_1] 66 (0, 0)) BK558.out hg (Kd.R_ne HO_10.out BK558.out (by decide))); replace HB := aM hb; have HO570 := aM ho; clear HO_10; clear ho hb hg hat))
        go_roundg k2
        case measure => have := HK1.out; have := HK2.out; omega
        case rel => exact ⟨(y568), (wrap64 (x11_1 + 1)), (by rfl), H', ⟨by have := HK1.out; have := HK2.out; omega⟩, ⟨by exact HO570.out⟩, ⟨by exact BK557.out⟩, ⟨by exact BK558.out⟩, ⟨HB.out⟩⟩
       ·rw [if_neg c39] at H
        exact absurd H (by simp)
   ·rw [if_neg c13] at H
    have c13b0 : decide (x11_1 < (wrap64 ((wrap64 ((wrap64 ((wrap64 (2 * t559)) + (wrap64 (3 * t560)))) + 2)) + t560))) = false := decide_eq_false c13
    clear c13
    replace H := Option.bind_eq_some_iff.mp H
    obtain ⟨⟨t564, t565⟩, A410, H⟩ := H
    replace H : (some (t564, t565)) = some (r1, r2) := H
    have A41 := aM A410
    clear A410
    simp only [Option.some.injEq, Prod.mk.injEq] at H
    obtain ⟨rfl, rfl⟩ := H
    obtain ⟨Ao42, co42, eo42⟩ := Kd.R_slice HO_10.out
    subst eo42
    go_wp2_with (first | ((with_reducible refine gate_callee (f := 76) rfl ?_); refine goesL_ (some 69) rfl rfl Try.func76 (by kernel_rfl) rfl #[.slice Ao42 x10_1.length co42, .int .i64 (wrap64 ((wrap64 ((wrap64 (2 * t559)) + (wrap64 (3 * t560)))) + 2))] rfl (by (try simp only [List.map_toArray, List.map_cons, List.map_nil]); rfl) ?_; (with_reducible refine (spec_l2Fill.calls k1 _ _ x10_1 (wrap64 ((wrap64 ((wrap64 (2 * t559)) + (wrap64 (3 * t560)))) + 2)) t564 t565 _ ?side1 ?side2 A41.out).mono ?_); (case side1 => repeat (exact (Kd.R_reads' HO_10.out).2.2)); (case side2 => exact (Kd.R_reads' HO_10.out).2.1); rintro e w43 ⟨rfl, hb⟩; refine ⟨_, rfl, ?_⟩; replace HO_10 := aM (Kd.R_below HO_10.out hb); replace BK557 := aM (blk_below (g := gb557) (o := .cells #[.slice A0_0 l0_0.length c0_0, .slice A0_1 l0_1.length c0_1] 66 (0, 0)) BK557.out hb); replace BK558 := aM (blk_below (g := gb558) (o := .cells #[.slice A1_0 l1_0.length c1_0, .slice A1_1 l1_1.length c1_1] 66 (0, 0)) BK558.out hb); replace HB := aM (below_step HB.out hb); (try clear hb)))
    go_ret2
    exact ⟨by first | rfl | (simp [*, errW_none, errW_some] <;> rfl), HB.out⟩


def spec_SumOf.f (k : Nat) (a0 : ByteArray) (a1 : ByteArray) : Option (ByteArray × Bool) := (spec_l4Small.f k a0).bind fun bt571 => ((spec_l4Small.f k a1).bind fun bt579 => (if bt571.2.2 = true then (if bt579.2.2 = true then ((spec_l4Sum.f k bt571.1 bt571.2.1 bt579.1 bt579.2.1 false).bind fun bt587 => (some (bt587.1, bt587.2))) else (some ((⟨#[]⟩ : ByteArray), false))) else (some ((⟨#[]⟩ : ByteArray), false))))
theorem spec_SumOf.mono : ∀ a0 a1 k, LeO (spec_SumOf.f k a0 a1) (spec_SumOf.f (k + 1) a0 a1) := by
 intro a0 a1 k
 unfold spec_SumOf.f
 repeat' first | (with_reducible exact spec_l4Small.mono _ _) | (with_reducible exact spec_l4Sum.mono _ _ _ _ _ _) | (with_reducible exact LeO.refl _) | (with_reducible refine LeO.ite ?_ ?_) | (with_reducible refine LeO.bind ?_ (fun _ => ?_))
set_option maxHeartbeats 8000000 in
set_option maxRecDepth 100000 in
theorem spec_SumOf.calls (k : Nat) (a0 : ByteArray) (a1 : ByteArray) (r1 : ByteArray) (r2 : Bool) (w : World) (h : spec_SumOf.f k a0 a1 = some (r1, r2)) :
  Calls Try.prog 63 #[.string a0, .string a1] w fun e w' => e = .returned (.tuple #[.string r1, .bool r2]) ∧ Below w.heap.size w w' := by
 have hu66 := Try.underlying66
 have HB := aM (Below.refl w.heap.size w)
 have H : ((spec_l4Small.f k a0).bind fun bt571 => ((spec_l4Small.f k a1).bind fun bt579 => (if bt571.2.2 = true then (if bt579.2.2 = true then ((spec_l4Sum.f k bt571.1 bt571.2.1 bt579.1 bt579.2.1 false).bind fun bt587 => (some (bt587.1, bt587.2))) else (some ((⟨#[]⟩ : ByteArray), false))) else (some ((⟨#[]⟩ : ByteArray), false))))) = some (r1, r2) := h
 clear h
 replace H := Option.bind_eq_some_iff.mp H
 obtain ⟨⟨t571, t574, t577⟩, A30, H⟩ := H
 replace H : ((spec_l4Small.f k a1).bind fun bt579 => (if t577 = true then (if bt579.2.2 = true then ((spec_l4Sum.f k t571 t574 bt579.1 bt579.2.1 false).bind fun bt587 => (some (bt587.1, bt587.2))) else (some ((⟨#[]⟩ : ByteArray), false))) else (some ((⟨#[]⟩ : ByteArray), false)))) = some (r1, r2) := H
 have A3 := aM A30
 clear A30
 replace H := Option.bind_eq_some_iff.mp H
 obtain ⟨⟨t579, t582, t585⟩, A40, H⟩ := H
 replace H : (if t577 = true then (if t585 = true then ((spec_l4Sum.f k t571 t574 t579 t582 false).bind fun bt587 => (some (bt587.1, bt587.2))) else (some ((⟨#[]⟩ : ByteArray), false))) else (some ((⟨#[]⟩ : ByteArray), false))) = some (r1, r2) := H
 have A4 := aM A40
 clear A40
 by_cases c5 : t577 = true
 ·subst c5
  replace H : (if t585 = true then ((spec_l4Sum.f k t571 t574 t579 t582 false).bind fun bt587 => (some (bt587.1, bt587.2))) else (some ((⟨#[]⟩ : ByteArray), false))) = some (r1, r2) := by rw [if_pos rfl] at H; exact H
  by_cases c6 : t585 = true
  ·subst c6
   replace H : ((spec_l4Sum.f k t571 t574 t579 t582 false).bind fun bt587 => (some (bt587.1, bt587.2))) = some (r1, r2) := by rw [if_pos rfl] at H; exact H
   replace H := Option.bind_eq_some_iff.mp H
   obtain ⟨⟨t587, t588⟩, A70, H⟩ := H
   replace H : (some (t587, t588)) = some (r1, r2) := H
   have A7 := aM A70
   clear A70
   simp only [Option.some.injEq, Prod.mk.injEq] at H
   obtain ⟨rfl, rfl⟩ := H
   go_enter Try.func63, Try.ntmps63
   go_wp2_with (first | ((with_reducible refine gate_callee (f := 57) rfl ?_); refine goesL_ (some 12) rfl rfl Try.func57 (by kernel_rfl) rfl #[.string a0] rfl (by (try simp only [List.map_toArray, List.map_cons, List.map_nil]); rfl) ?_; (with_reducible refine (spec_l4Small.calls k a0 t571 t574 true _ A3.out).mono ?_); rintro e w8 ⟨v572, v575, rfl, ho0, ho1, hb⟩; refine ⟨_, rfl, ?_⟩; have HO573 := aM (Kd.V_lower (Kd.V_mono (ok' := fun k_ => True) ho0 (fun k_ hk_ => trivial)) (below_size HB.out)); have HO576 := aM (Kd.V_lower (Kd.V_mono (ok' := fun k_ => True) ho1 (fun k_ hk_ => trivial)) (below_size HB.out)); replace HB := aM (below_step HB.out hb); (try clear hb); (try clear ho0); (try clear ho1)) | ((with_reducible refine gate_dst (N := 6) rfl ?_); refine box_event ?hg (N := 6) ?hd (cs := #[.slice none 0 0, .slice none 0 0]) (t := 66) ?hr ?_; (case hd => rfl); (case hg => rfl); (case hr => first | (go_simp; done)); intro gb578 hg w9 hbox hb; replace HO573 := aM (Kd.V_below (Kd.V_elderB HO573.out gb578 (Nat.le_of_eq hg.symm)) hb); replace HO576 := aM (Kd.V_below (Kd.V_elderB HO576.out gb578 (Nat.le_of_eq hg.symm)) hb); have BK578 := aM hbox; have GW578 := aM ((by rw [hg]; exact (below_size HB.out) : w.heap.size ≤ gb578)); have GE578 := aM ((by rw [hg]; exact (below_size HB.out) : w.heap.size ≤ gb578)); replace HB := aM (below_step HB.out hb); clear hb hbox hg; obtain ⟨Ao10, co10, eo10⟩ := Kd.V_slice HO573.out; subst eo10; have hcz11_0 : w9.cell? ⟨gb578, 0, none⟩ = some (.slice none 0 0) := (blk_cell BK578.out 0).trans rfl; have hcz11_1 : w9.cell? ⟨gb578, 1, none⟩ = some (.slice none 0 0) := (blk_cell BK578.out 1).trans rfl; have hfz11_0 := blk_frozen BK578.out 0; have hfz11_1 := blk_frozen BK578.out 1; obtain ⟨Ao12, co12, eo12⟩ := Kd.V_slice HO576.out; subst eo12) | ((with_reducible refine gate_callee (f := 57) rfl ?_); refine goesL_ (some 17) rfl rfl Try.func57 (by kernel_rfl) rfl #[.string a1] rfl (by (try simp only [List.map_toArray, List.map_cons, List.map_nil]); rfl) ?_; (with_reducible refine (spec_l4Small.calls k a1 t579 t582 true _ A4.out).mono ?_); rintro e w13 ⟨v580, v583, rfl, ho0, ho1, hb⟩; refine ⟨_, rfl, ?_⟩; replace HO573 := aM (Kd.V_below (by exact (Kd.V_mono (Kd.V_far (p := ⟨gb578, 1, none⟩) (Kd.V_far (p := ⟨gb578, 0, none⟩) (Kd.V_mono HO573.out (fun k_ hk => (⟨hk, hk.2⟩ : _ ∧ k_ ≠ gb578))) (fun _ hk => hk.2) (.slice Ao10 t571.length co10)) (fun _ hk => hk.2) (.slice Ao12 t574.length co12)) (fun _ h_ => h_.1))) hb); replace HO576 := aM (Kd.V_below (by exact (Kd.V_mono (Kd.V_far (p := ⟨gb578, 1, none⟩) (Kd.V_far (p := ⟨gb578, 0, none⟩) (Kd.V_mono HO576.out (fun k_ hk => (⟨hk, hk.2⟩ : _ ∧ k_ ≠ gb578))) (fun _ hk => hk.2) (.slice Ao10 t571.length co10)) (fun _ hk => hk.2) (.slice Ao12 t574.length co12)) (fun _ h_ => h_.1))) hb); have HO581 := aM (Kd.V_lower (Kd.V_mono (ok' := fun k_ => k_ ≠ gb578) ho0 (fun k_ hk_ => (Kd.freshB (g := gb578) (o := .cells #[.slice Ao10 t571.length co10, .slice Ao12 t574.length co12] 66 (0, 0)) (by refine blk_put (cs := #[.slice Ao10 t571.length co10, .slice none 0 0]) ?_ 1 _ rfl; refine blk_put (cs := #[.slice none 0 0, .slice none 0 0]) ?_ 0 _ rfl; exact BK578.out) k_ hk_))) (below_size (by repeat (first | (with_reducible first | exact HB.out | refine bS ?_ GE578.out))))); have HO584 := aM (Kd.V_lower (Kd.V_mono (ok' := fun k_ => k_ ≠ gb578) ho1 (fun k_ hk_ => (Kd.freshB (g := gb578) (o := .cells #[.slice Ao10 t571.length co10, .slice Ao12 t574.length co12] 66 (0, 0)) (by refine blk_put (cs := #[.slice Ao10 t571.length co10, .slice none 0 0]) ?_ 1 _ rfl; refine blk_put (cs := #[.slice none 0 0, .slice none 0 0]) ?_ 0 _ rfl; exact BK578.out) k_ hk_))) (below_size (by repeat (first | (with_reducible first | exact HB.out | refine bS ?_ GE578.out))))); replace BK578 := aM (blk_below (g := gb578) (o := .cells #[.slice Ao10 t571.length co10, .slice Ao12 t574.length co12] 66 (0, 0)) (by refine blk_put (cs := #[.slice Ao10 t571.length co10, .slice none 0 0]) ?_ 1 _ rfl; refine blk_put (cs := #[.slice none 0 0, .slice none 0 0]) ?_ 0 _ rfl; exact BK578.out) hb); replace HB := aM (below_step (by repeat (first | (with_reducible first | exact HB.out | refine bS ?_ GE578.out))) hb); (try clear hb); (try clear ho0); (try clear ho1)) | ((with_reducible refine gate_dst (N := 8) rfl ?_); refine box_event ?hg (N := 8) ?hd (cs := #[.slice none 0 0, .slice none 0 0]) (t := 66) ?hr ?_; (case hd => rfl); (case hg => rfl); (case hr => first | (go_simp; done)); intro gb586 hg w14 hbox hb; replace HO573 := aM (Kd.V_below (Kd.V_elderB HO573.out gb586 (Nat.le_of_eq hg.symm)) hb); replace HO576 := aM (Kd.V_below (Kd.V_elderB HO576.out gb586 (Nat.le_of_eq hg.symm)) hb); replace HO581 := aM (Kd.V_below (Kd.V_elderB HO581.out gb586 (Nat.le_of_eq hg.symm)) hb); replace HO584 := aM (Kd.V_below (Kd.V_elderB HO584.out gb586 (Nat.le_of_eq hg.symm)) hb); have BK586 := aM hbox; have GW586 := aM ((by rw [hg]; exact (below_size HB.out) : w.heap.size ≤ gb586)); have GE586 := aM ((by rw [hg]; exact (below_size HB.out) : w.heap.size ≤ gb586)); replace HB := aM (below_step HB.out hb); have NB578_586 := aM ((by rw [hg]; exact Nat.ne_of_lt (blk_lt (g := gb578) (o := .cells #[.slice Ao10 t571.length co10, .slice Ao12 t574.length co12] 66 (0, 0)) BK578.out) : gb578 ≠ gb586)); have NB586_578 := aM ((by rw [hg]; exact Nat.ne_of_gt (blk_lt (g := gb578) (o := .cells #[.slice Ao10 t571.length co10, .slice Ao12 t574.length co12] 66 (0, 0)) BK578.out) : gb586 ≠ gb578)); replace BK578 := aM (blk_below (g := gb578) (o := .cells #[.slice Ao10 t571.length co10, .slice Ao12 t574.length co12] 66 (0, 0)) BK578.out hb); clear hb hbox hg; obtain ⟨Ao15, co15, eo15⟩ := Kd.V_slice HO581.out; subst eo15; have hnb16 := NB586_578.out; have hnc16 := NB578_586.out; have hcz17_0 : w14.cell? ⟨gb586, 0, none⟩ = some (.slice none 0 0) := (blk_cell BK586.out 0).trans rfl; have hcz17_1 : w14.cell? ⟨gb586, 1, none⟩ = some (.slice none 0 0) := (blk_cell BK586.out 1).trans rfl; have hfz17_0 := blk_frozen BK586.out 0; have hfz17_1 := blk_frozen BK586.out 1; obtain ⟨Ao18, co18, eo18⟩ := Kd.V_slice HO584.out; subst eo18; have hcz19_0 : w14.cell? ⟨gb578, 0, none⟩ = some (.slice Ao10 t571.length co10) := (blk_cell BK578.out 0).trans rfl; have hcz19_1 : w14.cell? ⟨gb578, 1, none⟩ = some (.slice Ao12 t574.length co12) := (blk_cell BK578.out 1).trans rfl; have hfz19_0 := blk_frozen BK578.out 0; have hfz19_1 := blk_frozen BK578.out 1) | ((with_reducible refine gate_callee (f := 106) rfl ?_); refine goesL_ (some 28) rfl rfl Try.func106 (by kernel_rfl) rfl #[.agg #[.slice Ao10 t571.length co10, .slice Ao12 t574.length co12], .agg #[.slice Ao15 t579.length co15, .slice Ao18 t582.length co18], .bool false] rfl (by (try simp only [List.map_toArray, List.map_cons, List.map_nil]); rfl) ?_; (with_reducible refine (spec_l4Sum.calls k _ _ t571 _ _ t574 _ _ t579 _ _ t582 false t587 t588 _ ?side1 ?side2 ?side3 ?side4 ?side5 ?side6 ?side7 ?side8 A7.out).mono ?_); (case side1 => refine (Kd.V_reads' (e := 4) (base := w.heap.size) (ok := fun k_ => ((True ∧ k_ ≠ gb578) ∧ k_ ≠ gb586)) (n := t571.length) (c := co10) ?_).2.2; exact (by exact (Kd.V_mono (Kd.V_far (p := ⟨gb586, 1, none⟩) (Kd.V_far (p := ⟨gb586, 0, none⟩) (Kd.V_mono HO573.out (fun k_ hk => (⟨hk, hk.2⟩ : _ ∧ k_ ≠ gb586))) (fun _ hk => hk.2) (.slice Ao15 t579.length co15)) (fun _ hk => hk.2) (.slice Ao18 t582.length co18)) (fun _ h_ => h_.1)))); (case side2 => exact (Kd.V_reads' HO573.out).2.1); (case side3 => refine (Kd.V_reads' (e := 4) (base := w.heap.size) (ok := fun k_ => ((True ∧ k_ ≠ gb578) ∧ k_ ≠ gb586)) (n := t574.length) (c := co12) ?_).2.2; exact (by exact (Kd.V_mono (Kd.V_far (p := ⟨gb586, 1, none⟩) (Kd.V_far (p := ⟨gb586, 0, none⟩) (Kd.V_mono HO576.out (fun k_ hk => (⟨hk, hk.2⟩ : _ ∧ k_ ≠ gb586))) (fun _ hk => hk.2) (.slice Ao15 t579.length co15)) (fun _ hk => hk.2) (.slice Ao18 t582.length co18)) (fun _ h_ => h_.1)))); (case side4 => exact (Kd.V_reads' HO576.out).2.1); (case side5 => refine (Kd.V_reads' (e := 4) (base := w.heap.size) (ok := fun k_ => (k_ ≠ gb578 ∧ k_ ≠ gb586)) (n := t579.length) (c := co15) ?_).2.2; exact (by exact (Kd.V_mono (Kd.V_far (p := ⟨gb586, 1, none⟩) (Kd.V_far (p := ⟨gb586, 0, none⟩) (Kd.V_mono HO581.out (fun k_ hk => (⟨hk, hk.2⟩ : _ ∧ k_ ≠ gb586))) (fun _ hk => hk.2) (.slice Ao15 t579.length co15)) (fun _ hk => hk.2) (.slice Ao18 t582.length co18)) (fun _ h_ => h_.1)))); (case side6 => exact (Kd.V_reads' HO581.out).2.1); (case side7 => refine (Kd.V_reads' (e := 4) (base := w.heap.size) (ok := fun k_ => (k_ ≠ gb578 ∧ k_ ≠ gb586)) (n := t582.length) (c := co18) ?_).2.2; exact (by exact (Kd.V_mono (Kd.V_far (p := ⟨gb586, 1, none⟩) (Kd.V_far (p := ⟨gb586, 0, none⟩) (Kd.V_mono HO584.out (fun k_ hk => (⟨hk, hk.2⟩ : _ ∧ k_ ≠ gb586))) (fun _ hk => hk.2) (.slice Ao15 t579.length co15)) (fun _ hk => hk.2) (.slice Ao18 t582.length co18)) (fun _ h_ => h_.1)))); (case side8 => exact (Kd.V_reads' HO584.out).2.1); rintro e w20 ⟨rfl, hb⟩; refine ⟨_, rfl, ?_⟩; replace HO573 := aM (Kd.V_below (by exact (Kd.V_mono (Kd.V_far (p := ⟨gb586, 1, none⟩) (Kd.V_far (p := ⟨gb586, 0, none⟩) (Kd.V_mono HO573.out (fun k_ hk => (⟨hk, hk.2⟩ : _ ∧ k_ ≠ gb586))) (fun _ hk => hk.2) (.slice Ao15 t579.length co15)) (fun _ hk => hk.2) (.slice Ao18 t582.length co18)) (fun _ h_ => h_.1))) hb); replace HO576 := aM (Kd.V_below (by exact (Kd.V_mono (Kd.V_far (p := ⟨gb586, 1, none⟩) (Kd.V_far (p := ⟨gb586, 0, none⟩) (Kd.V_mono HO576.out (fun k_ hk => (⟨hk, hk.2⟩ : _ ∧ k_ ≠ gb586))) (fun _ hk => hk.2) (.slice Ao15 t579.length co15)) (fun _ hk => hk.2) (.slice Ao18 t582.length co18)) (fun _ h_ => h_.1))) hb); replace HO581 := aM (Kd.V_below (by exact (Kd.V_mono (Kd.V_far (p := ⟨gb586, 1, none⟩) (Kd.V_far (p := ⟨gb586, 0, none⟩) (Kd.V_mono HO581.out (fun k_ hk => (⟨hk, hk.2⟩ : _ ∧ k_ ≠ gb586))) (fun _ hk => hk.2) (.slice Ao15 t579.length co15)) (fun _ hk => hk.2) (.slice Ao18 t582.length co18)) (fun _ h_ => h_.1))) hb); replace HO584 := aM (Kd.V_below (by exact (Kd.V_mono (Kd.V_far (p := ⟨gb586, 1, none⟩) (Kd.V_far (p := ⟨gb586, 0, none⟩) (Kd.V_mono HO584.out (fun k_ hk => (⟨hk, hk.2⟩ : _ ∧ k_ ≠ gb586))) (fun _ hk => hk.2) (.slice Ao15 t579.length co15)) (fun _ hk => hk.2) (.slice Ao18 t582.length co18)) (fun _ h_ => h_.1))) hb); replace BK578 := aM (blk_below (g := gb578) (o := .cells #[.slice Ao10 t571.length co10, .slice Ao12 t574.length co12] 66 (0, 0)) (by refine blk_far ?_ NB578_586.out _; refine blk_far ?_ NB578_586.out _; exact BK578.out) hb); replace BK586 := aM (blk_below (g := gb586) (o := .cells #[.slice Ao15 t579.length co15, .slice Ao18 t582.length co18] 66 (0, 0)) (by refine blk_put (cs := #[.slice Ao15 t579.length co15, .slice none 0 0]) ?_ 1 _ rfl; refine blk_put (cs := #[.slice none 0 0, .slice none 0 0]) ?_ 0 _ rfl; exact BK586.out) hb); replace HB := aM (below_step (by repeat (first | (with_reducible first | exact HB.out | refine bS ?_ GE586.out))) hb); (try clear hb)))
   go_ret2
   exact ⟨by first | rfl | (simp [*, errW_none, errW_some] <;> rfl), HB.out⟩
  ·replace c6 := Bool.eq_false_iff.mpr c6
   subst c6
   replace H : (some ((⟨#[]⟩ : ByteArray), false)) = some (r1, r2) := by rw [if_neg (show ¬ (false = true) by decide)] at H; exact H
   simp only [Option.some.injEq, Prod.mk.injEq] at H
   obtain ⟨rfl, rfl⟩ := H
   go_enter Try.func63, Try.ntmps63
   go_wp2_with (first | ((with_reducible refine gate_callee (f := 57) rfl ?_); refine goesL_ (some 12) rfl rfl Try.func57 (by kernel_rfl) rfl #[.string a0] rfl (by (try simp only [List.map_toArray, List.map_cons, List.map_nil]); rfl) ?_; (with_reducible refine (spec_l4Small.calls k a0 t571 t574 true _ A3.out).mono ?_); rintro e w21 ⟨v572, v575, rfl, ho0, ho1, hb⟩; refine ⟨_, rfl, ?_⟩; have HO573 := aM (Kd.V_lower (Kd.V_mono (ok' := fun k_ => True) ho0 (fun k_ hk_ => trivial)) (below_size HB.out)); have HO576 := aM (Kd.V_lower (Kd.V_mono (ok' := fun k_ => True) ho1 (fun k_ hk_ => trivial)) (below_size HB.out)); replace HB := aM (below_step HB.out hb); (try clear hb); (try clear ho0); (try clear ho1)) | ((with_reducible refine gate_dst (N := 6) rfl ?_); refine box_event ?hg (N := 6) ?hd (cs := #[.slice none 0 0, .slice none 0 0]) (t := 66) ?hr ?_; (case hd => rfl); (case hg => rfl); (case hr => first | (go_simp; done)); intro gb578 hg w22 hbox hb; replace HO573 := aM (Kd.V_below (Kd.V_elderB HO573.out gb578 (Nat.le_of_eq hg.symm)) hb); replace HO576 := aM (Kd.V_below (Kd.V_elderB HO576.out gb578 (Nat.le_of_eq hg.symm)) hb); have BK578 := aM hbox; have GW578 := aM ((by rw [hg]; exact (below_size HB.out) : w.heap.size ≤ gb578)); have GE578 := aM ((by rw [hg]; exact (below_size HB.out) : w.heap.size ≤ gb578)); replace HB := aM (below_step HB.out hb); clear hb hbox hg; obtain ⟨Ao23, co23, eo23⟩ := Kd.V_slice HO573.out; subst eo23; have hcz24_0 : w22.cell? ⟨gb578, 0, none⟩ = some (.slice none 0 0) := (blk_cell BK578.out 0).trans rfl; have hcz24_1 : w22.cell? ⟨gb578, 1, none⟩ = some (.slice none 0 0) := (blk_cell BK578.out 1).trans rfl; have hfz24_0 := blk_frozen BK578.out 0; have hfz24_1 := blk_frozen BK578.out 1; obtain ⟨Ao25, co25, eo25⟩ := Kd.V_slice HO576.out; subst eo25) | ((with_reducible refine gate_callee (f := 57) rfl ?_); refine goesL_ (some 17) rfl rfl Try.func57 (by kernel_rfl) rfl #[.string a1] rfl (by (try simp only [List.map_toArray, List.map_cons, List.map_nil]); rfl) ?_; (with_reducible refine (spec_l4Small.calls k a1 t579 t582 false _ A4.out).mono ?_); rintro e w26 ⟨v580, v583, rfl, ho0, ho1, hb⟩; refine ⟨_, rfl, ?_⟩; replace HO573 := aM (Kd.V_below (by exact (Kd.V_mono (Kd.V_far (p := ⟨gb578, 1, none⟩) (Kd.V_far (p := ⟨gb578, 0, none⟩) (Kd.V_mono HO573.out (fun k_ hk => (⟨hk, hk.2⟩ : _ ∧ k_ ≠ gb578))) (fun _ hk => hk.2) (.slice Ao23 t571.length co23)) (fun _ hk => hk.2) (.slice Ao25 t574.length co25)) (fun _ h_ => h_.1))) hb); replace HO576 := aM (Kd.V_below (by exact (Kd.V_mono (Kd.V_far (p := ⟨gb578, 1, none⟩) (Kd.V_far (p := ⟨gb578, 0, none⟩) (Kd.V_mono HO576.out (fun k_ hk => (⟨hk, hk.2⟩ : _ ∧ k_ ≠ gb578))) (fun _ hk => hk.2) (.slice Ao23 t571.length co23)) (fun _ hk => hk.2) (.slice Ao25 t574.length co25)) (fun _ h_ => h_.1))) hb); have HO581 := aM (Kd.V_lower (Kd.V_mono (ok' := fun k_ => k_ ≠ gb578) ho0 (fun k_ hk_ => (Kd.freshB (g := gb578) (o := .cells #[.slice Ao23 t571.length co23, .slice Ao25 t574.length co25] 66 (0, 0)) (by refine blk_put (cs := #[.slice Ao23 t571.length co23, .slice none 0 0]) ?_ 1 _ rfl; refine blk_put (cs := #[.slice none 0 0, .slice none 0 0]) ?_ 0 _ rfl; exact BK578.out) k_ hk_))) (below_size (by repeat (first | (with_reducible first | exact HB.out | refine bS ?_ GE578.out))))); have HO584 := aM (Kd.V_lower (Kd.V_mono (ok' := fun k_ => k_ ≠ gb578) ho1 (fun k_ hk_ => (Kd.freshB (g := gb578) (o := .cells #[.slice Ao23 t571.length co23, .slice Ao25 t574.length co25] 66 (0, 0)) (by refine blk_put (cs := #[.slice Ao23 t571.length co23, .slice none 0 0]) ?_ 1 _ rfl; refine blk_put (cs := #[.slice none 0 0, .slice none 0 0]) ?_ 0 _ rfl; exact BK578.out) k_ hk_))) (below_size (by repeat (first | (with_reducible first | exact HB.out | refine bS ?_ GE578.out))))); replace BK578 := aM (blk_below (g := gb578) (o := .cells #[.slice Ao23 t571.length co23, .slice Ao25 t574.length co25] 66 (0, 0)) (by refine blk_put (cs := #[.slice Ao23 t571.length co23, .slice none 0 0]) ?_ 1 _ rfl; refine blk_put (cs := #[.slice none 0 0, .slice none 0 0]) ?_ 0 _ rfl; exact BK578.out) hb); replace HB := aM (below_step (by repeat (first | (with_reducible first | exact HB.out | refine bS ?_ GE578.out))) hb); (try clear hb); (try clear ho0); (try clear ho1)) | ((with_reducible refine gate_dst (N := 8) rfl ?_); refine box_event ?hg (N := 8) ?hd (cs := #[.slice none 0 0, .slice none 0 0]) (t := 66) ?hr ?_; (case hd => rfl); (case hg => rfl); (case hr => first | (go_simp; done)); intro gb586 hg w27 hbox hb; replace HO573 := aM (Kd.V_below (Kd.V_elderB HO573.out gb586 (Nat.le_of_eq hg.symm)) hb); replace HO576 := aM (Kd.V_below (Kd.V_elderB HO576.out gb586 (Nat.le_of_eq hg.symm)) hb); replace HO581 := aM (Kd.V_below (Kd.V_elderB HO581.out gb586 (Nat.le_of_eq hg.symm)) hb); replace HO584 := aM (Kd.V_below (Kd.V_elderB HO584.out gb586 (Nat.le_of_eq hg.symm)) hb); have BK586 := aM hbox; have GW586 := aM ((by rw [hg]; exact (below_size HB.out) : w.heap.size ≤ gb586)); have GE586 := aM ((by rw [hg]; exact (below_size HB.out) : w.heap.size ≤ gb586)); replace HB := aM (below_step HB.out hb); have NB578_586 := aM ((by rw [hg]; exact Nat.ne_of_lt (blk_lt (g := gb578) (o := .cells #[.slice Ao23 t571.length co23, .slice Ao25 t574.length co25] 66 (0, 0)) BK578.out) : gb578 ≠ gb586)); have NB586_578 := aM ((by rw [hg]; exact Nat.ne_of_gt (blk_lt (g := gb578) (o := .cells #[.slice Ao23 t571.length co23, .slice Ao25 t574.length co25] 66 (0, 0)) BK578.out) : gb586 ≠ gb578)); replace BK578 := aM (blk_below (g := gb578) (o := .cells #[.slice Ao23 t571.length co23, .slice Ao25 t574.length co25] 66 (0, 0)) BK578.out hb); clear hb hbox hg; obtain ⟨Ao28, co28, eo28⟩ := Kd.V_slice HO581.out; subst eo28; have hnb29 := NB586_578.out; have hnc29 := NB578_586.out; have hcz30_0 : w27.cell? ⟨gb586, 0, none⟩ = some (.slice none 0 0) := (blk_cell BK586.out 0).trans rfl; have hcz30_1 : w27.cell? ⟨gb586, 1, none⟩ = some (.slice none 0 0) := (blk_cell BK586.out 1).trans rfl; have hfz30_0 := blk_frozen BK586.out 0; have hfz30_1 := blk_frozen BK586.out 1; obtain ⟨Ao31, co31, eo31⟩ := Kd.V_slice HO584.out; subst eo31))
   go_ret2
   exact ⟨by first | rfl | (simp [*, errW_none, errW_some] <;> rfl), by repeat (first | (with_reducible first | exact HB.out | refine bS ?_ GE586.out))⟩
 ·replace c5 := Bool.eq_false_iff.mpr c5
  subst c5
  replace H : (some ((⟨#[]⟩ : ByteArray), false)) = some (r1, r2) := by rw [if_neg (show ¬ (false = true) by decide)] at H; exact H
  simp only [Option.some.injEq, Prod.mk.injEq] at H
  obtain ⟨rfl, rfl⟩ := H
  go_enter Try.func63, Try.ntmps63
  go_wp2_with (first | ((with_reducible refine gate_callee (f := 57) rfl ?_); refine goesL_ (some 12) rfl rfl Try.func57 (by kernel_rfl) rfl #[.string a0] rfl (by (try simp only [List.map_toArray, List.map_cons, List.map_nil]); rfl) ?_; (with_reducible refine (spec_l4Small.calls k a0 t571 t574 false _ A3.out).mono ?_); rintro e w32 ⟨v572, v575, rfl, ho0, ho1, hb⟩; refine ⟨_, rfl, ?_⟩; have HO573 := aM (Kd.V_lower (Kd.V_mono (ok' := fun k_ => True) ho0 (fun k_ hk_ => trivial)) (below_size HB.out)); have HO576 := aM (Kd.V_lower (Kd.V_mono (ok' := fun k_ => True) ho1 (fun k_ hk_ => trivial)) (below_size HB.out)); replace HB := aM (below_step HB.out hb); (try clear hb); (try clear ho0); (try clear ho1)) | ((with_reducible refine gate_dst (N := 6) rfl ?_); refine box_event ?hg (N := 6) ?hd (cs := #[.slice none 0 0, .slice none 0 0]) (t := 66) ?hr ?_; (case hd => rfl); (case hg => rfl); (case hr => first | (go_simp; done)); intro gb578 hg w33 hbox hb; replace HO573 := aM (Kd.V_below (Kd.V_elderB HO573.out gb578 (Nat.le_of_eq hg.symm)) hb); replace HO576 := aM (Kd.V_below (Kd.V_elderB HO576.out gb578 (Nat.le_of_eq hg.symm)) hb); have BK578 := aM hbox; have GW578 := aM ((by rw [hg]; exact (below_size HB.out) : w.heap.size ≤ gb578)); have GE578 := aM ((by rw [hg]; exact (below_size HB.out) : w.heap.size ≤ gb578)); replace HB := aM (below_step HB.out hb); clear hb hbox hg; obtain ⟨Ao34, co34, eo34⟩ := Kd.V_slice HO573.out; subst eo34; have hcz35_0 : w33.cell? ⟨gb578, 0, none⟩ = some (.slice none 0 0) := (blk_cell BK578.out 0).trans rfl; have hcz35_1 : w33.cell? ⟨gb578, 1, none⟩ = some (.slice none 0 0) := (blk_cell BK578.out 1).trans rfl; have hfz35_0 := blk_frozen BK578.out 0; have hfz35_1 := blk_frozen BK578.out 1; obtain ⟨Ao36, co36, eo36⟩ := Kd.V_slice HO576.out; subst eo36) | ((with_reducible refine gate_callee (f := 57) rfl ?_); refine goesL_ (some 17) rfl rfl Try.func57 (by kernel_rfl) rfl #[.string a1] rfl (by (try simp only [List.map_toArray, List.map_cons, List.map_nil]); rfl) ?_; (with_reducible refine (spec_l4Small.calls k a1 t579 t582 t585 _ A4.out).mono ?_); rintro e w37 ⟨v580, v583, rfl, ho0, ho1, hb⟩; refine ⟨_, rfl, ?_⟩; replace HO573 := aM (Kd.V_below (by exact (Kd.V_mono (Kd.V_far (p := ⟨gb578, 1, none⟩) (Kd.V_far (p := ⟨gb578, 0, none⟩) (Kd.V_mono HO573.out (fun k_ hk => (⟨hk, hk.2⟩ : _ ∧ k_ ≠ gb578))) (fun _ hk => hk.2) (.slice Ao34 t571.length co34)) (fun _ hk => hk.2) (.slice Ao36 t574.length co36)) (fun _ h_ => h_.1))) hb); replace HO576 := aM (Kd.V_below (by exact (Kd.V_mono (Kd.V_far (p := ⟨gb578, 1, none⟩) (Kd.V_far (p := ⟨gb578, 0, none⟩) (Kd.V_mono HO576.out (fun k_ hk => (⟨hk, hk.2⟩ : _ ∧ k_ ≠ gb578))) (fun _ hk => hk.2) (.slice Ao34 t571.length co34)) (fun _ hk => hk.2) (.slice Ao36 t574.length co36)) (fun _ h_ => h_.1))) hb); have HO581 := aM (Kd.V_lower (Kd.V_mono (ok' := fun k_ => k_ ≠ gb578) ho0 (fun k_ hk_ => (Kd.freshB (g := gb578) (o := .cells #[.slice Ao34 t571.length co34, .slice Ao36 t574.length co36] 66 (0, 0)) (by refine blk_put (cs := #[.slice Ao34 t571.length co34, .slice none 0 0]) ?_ 1 _ rfl; refine blk_put (cs := #[.slice none 0 0, .slice none 0 0]) ?_ 0 _ rfl; exact BK578.out) k_ hk_))) (below_size (by repeat (first | (with_reducible first | exact HB.out | refine bS ?_ GE578.out))))); have HO584 := aM (Kd.V_lower (Kd.V_mono (ok' := fun k_ => k_ ≠ gb578) ho1 (fun k_ hk_ => (Kd.freshB (g := gb578) (o := .cells #[.slice Ao34 t571.length co34, .slice Ao36 t574.length co36] 66 (0, 0)) (by refine blk_put (cs := #[.slice Ao34 t571.length co34, .slice none 0 0]) ?_ 1 _ rfl; refine blk_put (cs := #[.slice none 0 0, .slice none 0 0]) ?_ 0 _ rfl; exact BK578.out) k_ hk_))) (below_size (by repeat (first | (with_reducible first | exact HB.out | refine bS ?_ GE578.out))))); replace BK578 := aM (blk_below (g := gb578) (o := .cells #[.slice Ao34 t571.length co34, .slice Ao36 t574.length co36] 66 (0, 0)) (by refine blk_put (cs := #[.slice Ao34 t571.length co34, .slice none 0 0]) ?_ 1 _ rfl; refine blk_put (cs := #[.slice none 0 0, .slice none 0 0]) ?_ 0 _ rfl; exact BK578.out) hb); replace HB := aM (below_step (by repeat (first | (with_reducible first | exact HB.out | refine bS ?_ GE578.out))) hb); (try clear hb); (try clear ho0); (try clear ho1)) | ((with_reducible refine gate_dst (N := 8) rfl ?_); refine box_event ?hg (N := 8) ?hd (cs := #[.slice none 0 0, .slice none 0 0]) (t := 66) ?hr ?_; (case hd => rfl); (case hg => rfl); (case hr => first | (go_simp; done)); intro gb586 hg w38 hbox hb; replace HO573 := aM (Kd.V_below (Kd.V_elderB HO573.out gb586 (Nat.le_of_eq hg.symm)) hb); replace HO576 := aM (Kd.V_below (Kd.V_elderB HO576.out gb586 (Nat.le_of_eq hg.symm)) hb); replace HO581 := aM (Kd.V_below (Kd.V_elderB HO581.out gb586 (Nat.le_of_eq hg.symm)) hb); replace HO584 := aM (Kd.V_below (Kd.V_elderB HO584.out gb586 (Nat.le_of_eq hg.symm)) hb); have BK586 := aM hbox; have GW586 := aM ((by rw [hg]; exact (below_size HB.out) : w.heap.size ≤ gb586)); have GE586 := aM ((by rw [hg]; exact (below_size HB.out) : w.heap.size ≤ gb586)); replace HB := aM (below_step HB.out hb); have NB578_586 := aM ((by rw [hg]; exact Nat.ne_of_lt (blk_lt (g := gb578) (o := .cells #[.slice Ao34 t571.length co34, .slice Ao36 t574.length co36] 66 (0, 0)) BK578.out) : gb578 ≠ gb586)); have NB586_578 := aM ((by rw [hg]; exact Nat.ne_of_gt (blk_lt (g := gb578) (o := .cells #[.slice Ao34 t571.length co34, .slice Ao36 t574.length co36] 66 (0, 0)) BK578.out) : gb586 ≠ gb578)); replace BK578 := aM (blk_below (g := gb578) (o := .cells #[.slice Ao34 t571.length co34, .slice Ao36 t574.length co36] 66 (0, 0)) BK578.out hb); clear hb hbox hg; obtain ⟨Ao39, co39, eo39⟩ := Kd.V_slice HO581.out; subst eo39; have hnb40 := NB586_578.out; have hnc40 := NB578_586.out; have hcz41_0 : w38.cell? ⟨gb586, 0, none⟩ = some (.slice none 0 0) := (blk_cell BK586.out 0).trans rfl; have hcz41_1 : w38.cell? ⟨gb586, 1, none⟩ = some (.slice none 0 0) := (blk_cell BK586.out 1).trans rfl; have hfz41_0 := blk_frozen BK586.out 0; have hfz41_1 := blk_frozen BK586.out 1; obtain ⟨Ao42, co42, eo42⟩ := Kd.V_slice HO584.out; subst eo42))
  go_ret2
  exact ⟨by first | rfl | (simp [*, errW_none, errW_some] <;> rfl), by repeat (first | (with_reducible first | exact HB.out | refine bS ?_ GE586.out))⟩


def spec_SolveLeast.j0 : Nat → ByteArray → ByteArray → Bool → Option (ByteArray × Bool)
 | 0, _, _, _ => none
 | k + 1, x0, x1, x27 => if x27 = true then (some ((⟨#[]⟩ : ByteArray), false)) else ((spec_StarOf.f k x0).bind fun bt605 => (if bt605.2 = true then ((spec_SumOf.f k bt605.1 x1).bind fun bt607 => (some (bt607.1, bt607.2))) else (some ((⟨#[]⟩ : ByteArray), false))))
def spec_SolveLeast.f (k : Nat) (a0 : ByteArray) (a1 : ByteArray) : Option (ByteArray × Bool) := (spec_l4Small.f k a0).bind fun bt589 => ((spec_l4Small.f k a1).bind fun bt597 => (if bt589.2.2 = true then (spec_SolveLeast.j0 k a0 a1 (!bt597.2.2)) else (spec_SolveLeast.j0 k a0 a1 true)))
theorem spec_SolveLeast.mono_l : ∀ k, (∀ y0 y1 y2, LeO (spec_SolveLeast.j0 k y0 y1 y2) (spec_SolveLeast.j0 (k + 1) y0 y1 y2))
 | 0 => fun _ _ _ r h => by simp [spec_SolveLeast.j0] at h
 | k + 1 => by
  have ih0 := spec_SolveLeast.mono_l k
  ·intro y0 y1 y2
   unfold spec_SolveLeast.j0
   repeat' first | (with_reducible exact spec_StarOf.mono _ _) | (with_reducible exact spec_SumOf.mono _ _ _) | (with_reducible exact LeO.refl _) | (with_reducible refine LeO.ite ?_ ?_) | (with_reducible refine LeO.bind ?_ (fun _ => ?_))
theorem spec_SolveLeast.mono : ∀ a0 a1 k, LeO (spec_SolveLeast.f k a0 a1) (spec_SolveLeast.f (k + 1) a0 a1) := by
 intro a0 a1 k
 have ih0 := spec_SolveLeast.mono_l k
 unfold spec_SolveLeast.f
 repeat' first | (with_reducible exact ih0 _ _ _) | (with_reducible exact spec_l4Small.mono _ _) | (with_reducible refine LeO.ite ?_ ?_) | (with_reducible refine LeO.bind ?_ (fun _ => ?_))
set_option maxHeartbeats 8000000 in
set_option maxRecDepth 100000 in
theorem spec_SolveLeast.calls (k : Nat) (a0 : ByteArray) (a1 : ByteArray) (r1 : ByteArray) (r2 : Bool) (w : World) (h : spec_SolveLeast.f k a0 a1 = some (r1, r2)) :
  Calls Try.prog 18 #[.string a0, .string a1] w fun e w' => e = .returned (.tuple #[.string r1, .bool r2]) ∧ Below w.heap.size w w' := by
 have hu66 := Try.underlying66
 have HB := aM (Below.refl w.heap.size w)
 have H : ((spec_l4Small.f k a0).bind fun bt589 => ((spec_l4Small.f k a1).bind fun bt597 => (if bt589.2.2 = true then (spec_SolveLeast.j0 k a0 a1 (!bt597.2.2)) else (spec_SolveLeast.j0 k a0 a1 true)))) = some (r1, r2) := h
 clear h
 replace H := Option.bind_eq_some_iff.mp H
 obtain ⟨⟨t589, t592, t595⟩, A30, H⟩ := H
 replace H : ((spec_l4Small.f k a1).bind fun bt597 => (if t595 = true then (spec_SolveLeast.j0 k a0 a1 (!bt597.2.2)) else (spec_SolveLeast.j0 k a0 a1 true))) = some (r1, r2) := H
 have A3 := aM A30
 clear A30
 replace H := Option.bind_eq_some_iff.mp H
 obtain ⟨⟨t597, t600, t603⟩, A40, H⟩ := H
 replace H : (if t595 = true then (spec_SolveLeast.j0 k a0 a1 (!t603)) else (spec_SolveLeast.j0 k a0 a1 true)) = some (r1, r2) := H
 have A4 := aM A40
 clear A40
 have HC5 := aM H
 clear H
 go_enter Try.func18, Try.ntmps18
 go_upto_region 3 with (first | ((with_reducible refine gate_callee (f := 57) rfl ?_); refine goesL_ (some 14) rfl rfl Try.func57 (by kernel_rfl) rfl #[.string a0] rfl (by (try simp only [List.map_toArray, List.map_cons, List.map_nil]); rfl) ?_; (with_reducible refine (spec_l4Small.calls k a0 t589 t592 t595 _ A3.out).mono ?_); rintro e w6 ⟨v590, v593, rfl, ho0, ho1, hb⟩; refine ⟨_, rfl, ?_⟩; have HO591 := aM (Kd.V_lower (Kd.V_mono (ok' := fun k_ => True) ho0 (fun k_ hk_ => trivial)) (below_size HB.out)); have HO594 := aM (Kd.V_lower (Kd.V_mono (ok' := fun k_ => True) ho1 (fun k_ hk_ => trivial)) (below_size HB.out)); replace HB := aM (below_step HB.out hb); (try clear hb); (try clear ho0); (try clear ho1)) | ((with_reducible refine gate_dst (N := 6) rfl ?_); refine box_event ?hg (N := 6) ?hd (cs := #[.slice none 0 0, .slice none 0 0]) (t := 66) ?hr ?_; (case hd => rfl); (case hg => rfl); (case hr => first | (go_simp; done)); intro gb596 hg w7 hbox hb; replace HO591 := aM (Kd.V_below (Kd.V_elderB HO591.out gb596 (Nat.le_of_eq hg.symm)) hb); replace HO594 := aM (Kd.V_below (Kd.V_elderB HO594.out gb596 (Nat.le_of_eq hg.symm)) hb); have BK596 := aM hbox; have GW596 := aM ((by rw [hg]; exact (below_size HB.out) : w.heap.size ≤ gb596)); have GE596 := aM ((by rw [hg]; exact (below_size HB.out) : w.heap.size ≤ gb596)); replace HB := aM (below_step HB.out hb); clear hb hbox hg; obtain ⟨Ao8, co8, eo8⟩ := Kd.V_slice HO591.out; subst eo8; have hcz9_0 : w7.cell? ⟨gb596, 0, none⟩ = some (.slice none 0 0) := (blk_cell BK596.out 0).trans rfl; have hcz9_1 : w7.cell? ⟨gb596, 1, none⟩ = some (.slice none 0 0) := (blk_cell BK596.out 1).trans rfl; have hfz9_0 := blk_frozen BK596.out 0; have hfz9_1 := blk_frozen BK596.out 1; obtain ⟨Ao10, co10, eo10⟩ := Kd.V_slice HO594.out; subst eo10) | ((with_reducible refine gate_callee (f := 57) rfl ?_); refine goesL_ (some 19) rfl rfl Try.func57 (by kernel_rfl) rfl #[.string a1] rfl (by (try simp only [List.map_toArray, List.map_cons, List.map_nil]); rfl) ?_; (with_reducible refine (spec_l4Small.calls k a1 t597 t600 t603 _ A4.out).mono ?_); rintro e w11 ⟨v598, v601, rfl, ho0, ho1, hb⟩; refine ⟨_, rfl, ?_⟩; replace HO591 := aM (Kd.V_below (by exact (Kd.V_mono (Kd.V_far (p := ⟨gb596, 1, none⟩) (Kd.V_far (p := ⟨gb596, 0, none⟩) (Kd.V_mono HO591.out (fun k_ hk => (⟨hk, hk.2⟩ : _ ∧ k_ ≠ gb596))) (fun _ hk => hk.2) (.slice Ao8 t589.length co8)) (fun _ hk => hk.2) (.slice Ao10 t592.length co10)) (fun _ h_ => h_.1))) hb); replace HO594 := aM (Kd.V_below (by exact (Kd.V_mono (Kd.V_far (p := ⟨gb596, 1, none⟩) (Kd.V_far (p := ⟨gb596, 0, none⟩) (Kd.V_mono HO594.out (fun k_ hk => (⟨hk, hk.2⟩ : _ ∧ k_ ≠ gb596))) (fun _ hk => hk.2) (.slice Ao8 t589.length co8)) (fun _ hk => hk.2) (.slice Ao10 t592.length co10)) (fun _ h_ => h_.1))) hb); have HO599 := aM (Kd.V_lower (Kd.V_mono (ok' := fun k_ => k_ ≠ gb596) ho0 (fun k_ hk_ => (Kd.freshB (g := gb596) (o := .cells #[.slice Ao8 t589.length co8, .slice Ao10 t592.length co10] 66 (0, 0)) (by refine blk_put (cs := #[.slice Ao8 t589.length co8, .slice none 0 0]) ?_ 1 _ rfl; refine blk_put (cs := #[.slice none 0 0, .slice none 0 0]) ?_ 0 _ rfl; exact BK596.out) k_ hk_))) (below_size (by repeat (first | (with_reducible first | exact HB.out | refine bS ?_ GE596.out))))); have HO602 := aM (Kd.V_lower (Kd.V_mono (ok' := fun k_ => k_ ≠ gb596) ho1 (fun k_ hk_ => (Kd.freshB (g := gb596) (o := .cells #[.slice Ao8 t589.length co8, .slice Ao10 t592.length co10] 66 (0, 0)) (by refine blk_put (cs := #[.slice Ao8 t589.length co8, .slice none 0 0]) ?_ 1 _ rfl; refine blk_put (cs := #[.slice none 0 0, .slice none 0 0]) ?_ 0 _ rfl; exact BK596.out) k_ hk_))) (below_size (by repeat (first | (with_reducible first | exact HB.out | refine bS ?_ GE596.out))))); replace BK596 := aM (blk_below (g := gb596) (o := .cells #[.slice Ao8 t589.length co8, .slice Ao10 t592.length co10] 66 (0, 0)) (by refine blk_put (cs := #[.slice Ao8 t589.length co8, .slice none 0 0]) ?_ 1 _ rfl; refine blk_put (cs := #[.slice none 0 0, .slice none 0 0]) ?_ 0 _ rfl; exact BK596.out) hb); replace HB := aM (below_step (by repeat (first | (with_reducible first | exact HB.out | refine bS ?_ GE596.out))) hb); (try clear hb); (try clear ho0); (try clear ho1)) | ((with_reducible refine gate_dst (N := 8) rfl ?_); refine box_event ?hg (N := 8) ?hd (cs := #[.slice none 0 0, .slice none 0 0]) (t := 66) ?hr ?_; (case hd => rfl); (case hg => rfl); (case hr => first | (go_simp; done)); intro gb604 hg w12 hbox hb; replace HO591 := aM (Kd.V_below (Kd.V_elderB HO591.out gb604 (Nat.le_of_eq hg.symm)) hb); replace HO594 := aM (Kd.V_below (Kd.V_elderB HO594.out gb604 (Nat.le_of_eq hg.symm)) hb); replace HO599 := aM (Kd.V_below (Kd.V_elderB HO599.out gb604 (Nat.le_of_eq hg.symm)) hb); replace HO602 := aM (Kd.V_below (Kd.V_elderB HO602.out gb604 (Nat.le_of_eq hg.symm)) hb); have BK604 := aM hbox; have GW604 := aM ((by rw [hg]; exact (below_size HB.out) : w.heap.size ≤ gb604)); have GE604 := aM ((by rw [hg]; exact (below_size HB.out) : w.heap.size ≤ gb604)); replace HB := aM (below_step HB.out hb); have NB596_604 := aM ((by rw [hg]; exact Nat.ne_of_lt (blk_lt (g := gb596) (o := .cells #[.slice Ao8 t589.length co8, .slice Ao10 t592.length co10] 66 (0, 0)) BK596.out) : gb596 ≠ gb604)); have NB604_596 := aM ((by rw [hg]; exact Nat.ne_of_gt (blk_lt (g := gb596) (o := .cells #[.slice Ao8 t589.length co8, .slice Ao10 t592.length co10] 66 (0, 0)) BK596.out) : gb604 ≠ gb596)); replace BK596 := aM (blk_below (g := gb596) (o := .cells #[.slice Ao8 t589.length co8, .slice Ao10 t592.length co10] 66 (0, 0)) BK596.out hb); clear hb hbox hg; obtain ⟨Ao13, co13, eo13⟩ := Kd.V_slice HO599.out; subst eo13; have hnb14 := NB604_596.out; have hnc14 := NB596_604.out; have hcz15_0 : w12.cell? ⟨gb604, 0, none⟩ = some (.slice none 0 0) := (blk_cell BK604.out 0).trans rfl; have hcz15_1 : w12.cell? ⟨gb604, 1, none⟩ = some (.slice none 0 0) := (blk_cell BK604.out 1).trans rfl; have hfz15_0 := blk_frozen BK604.out 0; have hfz15_1 := blk_frozen BK604.out 1; obtain ⟨Ao16, co16, eo16⟩ := Kd.V_slice HO602.out; subst eo16))
 go_cut [27] (fun v27 wc => ∃ (kq : Nat) (x27_4 : Bool), v27 = .bool x27_4 ∧ Aside0 (spec_SolveLeast.j0 kq a0 a1 x27_4 = some (r1, r2)) ∧ Aside0 (kq ≤ k) ∧ Aside0 (Kd.V Kd.bool 4 wc w.heap.size (fun k_ => k_ ≠ gb596 ∧ k_ ≠ gb604) (.slice Ao8 t589.length co8) t589) ∧ Aside0 (Kd.V Kd.bool 4 wc w.heap.size (fun k_ => k_ ≠ gb596 ∧ k_ ≠ gb604) (.slice Ao10 t592.length co10) t592) ∧ Aside0 (Kd.V Kd.bool 4 wc w.heap.size (fun k_ => k_ ≠ gb596 ∧ k_ ≠ gb604) (.slice Ao13 t597.length co13) t597) ∧ Aside0 (Kd.V Kd.bool 4 wc w.heap.size (fun k_ => k_ ≠ gb596 ∧ k_ ≠ gb604) (.slice Ao16 t600.length co16) t600) ∧ Aside0 (wc.heap[gb596]? = some (.cells #[(.slice Ao8 t589.length co8), (.slice Ao10 t592.length co10)] 66 (0, 0))) ∧ Aside0 (wc.heap[gb604]? = some (.cells #[(.slice Ao13 t597.length co13), (.slice Ao16 t600.length co16)] 66 (0, 0))) ∧ Aside0 (Below w.heap.size w wc))
 case first =>
  have H := HC5.out
  clear HC5
  by_cases c17 : t595 = true
  ·subst c17
   replace H : (spec_SolveLeast.j0 k a0 a1 (!t603)) = some (r1, r2) := by rw [if_pos rfl] at H; exact H
   have H' := aM H
   clear H
   go_wp2
   go_meet
   case rel => exact ⟨_, (!t603), (by rfl), H', ⟨by omega⟩, ⟨by exact Kd.V_mono (Kd.V_far (p := ⟨gb604, 1, none⟩) (Kd.V_far (p := ⟨gb604, 0, none⟩) (Kd.V_mono HO591.out (fun k_ hk => (⟨hk, hk.2⟩ : _ ∧ k_ ≠ gb604))) (fun _ hk => hk.2) (.slice Ao13 t597.length co13)) (fun _ hk => hk.2) (.slice Ao16 t600.length co16)) (fun _ hk => ⟨hk.1.1.2, hk.1.2⟩)⟩, ⟨by exact Kd.V_mono (Kd.V_far (p := ⟨gb604, 1, none⟩) (Kd.V_far (p := ⟨gb604, 0, none⟩) (Kd.V_mono HO594.out (fun k_ hk => (⟨hk, hk.2⟩ : _ ∧ k_ ≠ gb604))) (fun _ hk => hk.2) (.slice Ao13 t597.length co13)) (fun _ hk => hk.2) (.slice Ao16 t600.length co16)) (fun _ hk => ⟨hk.1.1.2, hk.1.2⟩)⟩, ⟨by exact Kd.V_mono (Kd.V_far (p := ⟨gb604, 1, none⟩) (Kd.V_far (p := ⟨gb604, 0, none⟩) (Kd.V_mono HO599.out (fun k_ hk => (⟨hk, hk.2⟩ : _ ∧ k_ ≠ gb604))) (fun _ hk => hk.2) (.slice Ao13 t597.length co13)) (fun _ hk => hk.2) (.slice Ao16 t600.length co16)) (fun _ hk => ⟨hk.1.1, hk.1.2⟩)⟩, ⟨by exact Kd.V_mono (Kd.V_far (p := ⟨gb604, 1, none⟩) (Kd.V_far (p := ⟨gb604, 0, none⟩) (Kd.V_mono HO602.out (fun k_ hk => (⟨hk, hk.2⟩ : _ ∧ k_ ≠ gb604))) (fun _ hk => hk.2) (.slice Ao13 t597.length co13)) (fun _ hk => hk.2) (.slice Ao16 t600.length co16)) (fun _ hk => ⟨hk.1.1, hk.1.2⟩)⟩, ⟨by refine blk_far ?_ NB596_604.out _; refine blk_far ?_ NB596_604.out _; exact BK596.out⟩, ⟨by refine blk_put (cs := #[.slice Ao13 t597.length co13, .slice none 0 0]) ?_ 1 _ rfl; refine blk_put (cs := #[.slice none 0 0, .slice none 0 0]) ?_ 0 _ rfl; exact BK604.out⟩, ⟨by repeat (first | (with_reducible first | exact HB.out | refine bS ?_ GE604.out))⟩⟩
  ·replace c17 := Bool.eq_false_iff.mpr c17
   subst c17
   replace H : (spec_SolveLeast.j0 k a0 a1 true) = some (r1, r2) := by rw [if_neg (show ¬ (false = true) by decide)] at H; exact H
   have H' := aM H
   clear H
   go_wp2
   go_meet
   case rel => exact ⟨_, (true), (by rfl), H', ⟨by omega⟩, ⟨by exact Kd.V_mono (Kd.V_far (p := ⟨gb604, 1, none⟩) (Kd.V_far (p := ⟨gb604, 0, none⟩) (Kd.V_mono HO591.out (fun k_ hk => (⟨hk, hk.2⟩ : _ ∧ k_ ≠ gb604))) (fun _ hk => hk.2) (.slice Ao13 t597.length co13)) (fun _ hk => hk.2) (.slice Ao16 t600.length co16)) (fun _ hk => ⟨hk.1.1.2, hk.1.2⟩)⟩, ⟨by exact Kd.V_mono (Kd.V_far (p := ⟨gb604, 1, none⟩) (Kd.V_far (p := ⟨gb604, 0, none⟩) (Kd.V_mono HO594.out (fun k_ hk => (⟨hk, hk.2⟩ : _ ∧ k_ ≠ gb604))) (fun _ hk => hk.2) (.slice Ao13 t597.length co13)) (fun _ hk => hk.2) (.slice Ao16 t600.length co16)) (fun _ hk => ⟨hk.1.1.2, hk.1.2⟩)⟩, ⟨by exact Kd.V_mono (Kd.V_far (p := ⟨gb604, 1, none⟩) (Kd.V_far (p := ⟨gb604, 0, none⟩) (Kd.V_mono HO599.out (fun k_ hk => (⟨hk, hk.2⟩ : _ ∧ k_ ≠ gb604))) (fun _ hk => hk.2) (.slice Ao13 t597.length co13)) (fun _ hk => hk.2) (.slice Ao16 t600.length co16)) (fun _ hk => ⟨hk.1.1, hk.1.2⟩)⟩, ⟨by exact Kd.V_mono (Kd.V_far (p := ⟨gb604, 1, none⟩) (Kd.V_far (p := ⟨gb604, 0, none⟩) (Kd.V_mono HO602.out (fun k_ hk => (⟨hk, hk.2⟩ : _ ∧ k_ ≠ gb604))) (fun _ hk => hk.2) (.slice Ao13 t597.length co13)) (fun _ hk => hk.2) (.slice Ao16 t600.length co16)) (fun _ hk => ⟨hk.1.1, hk.1.2⟩)⟩, ⟨by refine blk_far ?_ NB596_604.out _; refine blk_far ?_ NB596_604.out _; exact BK596.out⟩, ⟨by refine blk_put (cs := #[.slice Ao13 t597.length co13, .slice none 0 0]) ?_ 1 _ rfl; refine blk_put (cs := #[.slice none 0 0, .slice none 0 0]) ?_ 0 _ rfl; exact BK604.out⟩, ⟨by repeat (first | (with_reducible first | exact HB.out | refine bS ?_ GE604.out))⟩⟩
 case rest =>
  clear HC5
  try clear hcz15_0
  try clear hcz15_1
  try clear hcz9_0
  try clear hcz9_1
  try clear hfz15_0
  try clear hfz15_1
  try clear hfz9_0
  try clear hfz9_1
  obtain ⟨kq, x27_4, rfl, HA, HJ4, HO_597000, HO_597001, HO_605000, HO_605001, BK596, BK604, HB⟩ := hcut
  cases kq with
  | zero => exact absurd HA.out (by simp [spec_SolveLeast.j0])
  | succ kj4 =>
   have H := HA.out
   clear HA
   simp only [spec_SolveLeast.j0] at H
   by_cases c18 : x27_4 = true
   ·subst c18
    replace H : (some ((⟨#[]⟩ : ByteArray), false)) = some (r1, r2) := by rw [if_pos rfl] at H; exact H
    simp only [Option.some.injEq, Prod.mk.injEq] at H
    obtain ⟨rfl, rfl⟩ := H
    go_wp2
    go_ret2
    exact ⟨by first | rfl | (simp [*, errW_none, errW_some] <;> rfl), HB.out⟩
   ·replace c18 := Bool.eq_false_iff.mpr c18
    subst c18
    replace H : ((spec_StarOf.f kj4 a0).bind fun bt605 => (if bt605.2 = true then ((spec_SumOf.f kj4 bt605.1 a1).bind fun bt607 => (some (bt607.1, bt607.2))) else (some ((⟨#[]⟩ : ByteArray), false)))) = some (r1, r2) := by rw [if_neg (show ¬ (false = true) by decide)] at H; exact H
    replace H := Option.bind_eq_some_iff.mp H
    obtain ⟨⟨t605, t606⟩, A190, H⟩ := H
    replace H : (if t606 = true then ((spec_SumOf.f kj4 t605 a1).bind fun bt607 => (some (bt607.1, bt607.2))) else (some ((⟨#[]⟩ : ByteArray), false))) = some (r1, r2) := H
    have A19 := aM A190
    clear A190
    by_cases c20 : t606 = true
    ·subst c20
     replace H : ((spec_SumOf.f kj4 t605 a1).bind fun bt607 => (some (bt607.1, bt607.2))) = some (r1, r2) := by rw [if_pos rfl] at H; exact H
     replace H := Option.bind_eq_some_iff.mp H
     obtain ⟨⟨t607, t608⟩, A210, H⟩ := H
     replace H : (some (t607, t608)) = some (r1, r2) := H
     have A21 := aM A210
     clear A210
     simp only [Option.some.injEq, Prod.mk.injEq] at H
     obtain ⟨rfl, rfl⟩ := H
     go_wp2_with (first | ((with_reducible refine gate_callee (f := 62) rfl ?_); refine goesL_ (some 30) rfl rfl Try.func62 (by kernel_rfl) rfl #[.string a0] rfl (by (try simp only [List.map_toArray, List.map_cons, List.map_nil]); rfl) ?_; (with_reducible refine (spec_StarOf.calls kj4 a0 t605 true _ A19.out).mono ?_); rintro e w22 ⟨rfl, hb⟩; refine ⟨_, rfl, ?_⟩; replace HO_597000 := aM (Kd.V_below HO_597000.out hb); replace HO_597001 := aM (Kd.V_below HO_597001.out hb); replace HO_605000 := aM (Kd.V_below HO_605000.out hb); replace HO_605001 := aM (Kd.V_below HO_605001.out hb); replace BK596 := aM (blk_below (g := gb596) (o := .cells #[.slice Ao8 t589.length co8, .slice Ao10 t592.length co10] 66 (0, 0)) BK596.out hb); replace BK604 := aM (blk_below (g := gb604) (o := .cells #[.slice Ao13 t597.length co13, .slice Ao16 t600.length co16] 66 (0, 0)) BK604.out hb); replace HB := aM (below_step HB.out hb); (try clear hb)) | ((with_reducible refine gate_callee (f := 63) rfl ?_); refine goesL_ (some 37) rfl rfl Try.func63 (by kernel_rfl) rfl #[.string t605, .string a1] rfl (by (try simp only [List.map_toArray, List.map_cons, List.map_nil]); rfl) ?_; (with_reducible refine (spec_SumOf.calls kj4 t605 a1 t607 t608 _ A21.out).mono ?_); rintro e w23 ⟨rfl, hb⟩; refine ⟨_, rfl, ?_⟩; replace HO_597000 := aM (Kd.V_below HO_597000.out hb); replace HO_597001 := aM (Kd.V_below HO_597001.out hb); replace HO_605000 := aM (Kd.V_below HO_605000.out hb); replace HO_605001 := aM (Kd.V_below HO_605001.out hb); replace BK596 := aM (blk_below (g := gb596) (o := .cells #[.slice Ao8 t589.length co8, .slice Ao10 t592.length co10] 66 (0, 0)) BK596.out hb); replace BK604 := aM (blk_below (g := gb604) (o := .cells #[.slice Ao13 t597.length co13, .slice Ao16 t600.length co16] 66 (0, 0)) BK604.out hb); replace HB := aM (below_step HB.out hb); (try clear hb)))
     go_ret2
     exact ⟨by first | rfl | (simp [*, errW_none, errW_some] <;> rfl), HB.out⟩
    ·replace c20 := Bool.eq_false_iff.mpr c20
     subst c20
     replace H : (some ((⟨#[]⟩ : ByteArray), false)) = some (r1, r2) := by rw [if_neg (show ¬ (false = true) by decide)] at H; exact H
     simp only [Option.some.injEq, Prod.mk.injEq] at H
     obtain ⟨rfl, rfl⟩ := H
     go_wp2_with (first | ((with_reducible refine gate_callee (f := 62) rfl ?_); refine goesL_ (some 30) rfl rfl Try.func62 (by kernel_rfl) rfl #[.string a0] rfl (by (try simp only [List.map_toArray, List.map_cons, List.map_nil]); rfl) ?_; (with_reducible refine (spec_StarOf.calls kj4 a0 t605 false _ A19.out).mono ?_); rintro e w24 ⟨rfl, hb⟩; refine ⟨_, rfl, ?_⟩; replace HO_597000 := aM (Kd.V_below HO_597000.out hb); replace HO_597001 := aM (Kd.V_below HO_597001.out hb); replace HO_605000 := aM (Kd.V_below HO_605000.out hb); replace HO_605001 := aM (Kd.V_below HO_605001.out hb); replace BK596 := aM (blk_below (g := gb596) (o := .cells #[.slice Ao8 t589.length co8, .slice Ao10 t592.length co10] 66 (0, 0)) BK596.out hb); replace BK604 := aM (blk_below (g := gb604) (o := .cells #[.slice Ao13 t597.length co13, .slice Ao16 t600.length co16] 66 (0, 0)) BK604.out hb); replace HB := aM (below_step HB.out hb); (try clear hb)))
     go_ret2
     exact ⟨by first | rfl | (simp [*, errW_none, errW_some] <;> rfl), HB.out⟩

end Go.Proofs.Ytpkpgdlbgcjloaa.Q
