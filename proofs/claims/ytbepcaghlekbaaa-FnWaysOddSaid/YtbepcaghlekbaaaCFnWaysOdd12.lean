/- The law FnWaysOdd holds for all that it draws. -/
import Derived.Laws.BitsLemmas
import Derived.Test.YtbepcaghlekbaaaCFnWaysOdd1
import Derived.Test.YtbepcaghlekbaaaCFnWaysOdd7
import Derived.Test.YtbepcaghlekbaaaCFnWaysOdd8
import Derived.Test.YtbepcaghlekbaaaCFnWaysOdd9
import Derived.Test.YtbepcaghlekbaaaCFnWaysOdd10
import Derived.Test.YtbepcaghlekbaaaCFnWaysOdd11
namespace Go.Proofs.Ytbepcaghlekbaaa.Q
open Go.RowKit Go.Proofs.YtbepcaghlekbaaaW.PrintWords Go.Proofs.YtbepcaghlekbaaaW.PrintLast Go.Proofs.YtbepcaghlekbaaaW.PrintMore
attribute [local go_sem] max2_int min2_int max_two min_two max_three min_three max_four min_four   -- for this text's walks alone
set_option linter.unusedVariables false
set_option linter.unusedSimpArgs false
mutual
def laws_FnWaysOdd.j0 : Nat → ByteArray → Int → Int → Bool → Bool → Option (Bool)
 | 0, _, _, _, _, _ => none
 | k + 1, x3, x4, x5, x6, x9 => if x9 = true then (laws_FnWaysOdd.j1 k x3 x4 x5 x9 (!x6)) else (laws_FnWaysOdd.j1 k x3 x4 x5 x9 true)
def laws_FnWaysOdd.j1 : Nat → ByteArray → Int → Int → Bool → Bool → Option (Bool)
 | 0, _, _, _, _, _ => none
 | k + 1, x3, x4, x5, x9, x49 => if x49 = true then (some x9) else (laws_FnWaysOdd.l0 k x3 x4 x5 0 1)
def laws_FnWaysOdd.l0 : Nat → ByteArray → Int → Int → Int → Int → Option (Bool)
 | 0, _, _, _, _, _ => none
 | k + 1, x3, x4, x5, x10, x11 => if x11 ≤ x4 then ((impl_WaysPart.f k x3 x4 x11).bind fun bt935 => (laws_FnWaysOdd.l0 k x3 x4 x5 (wrap64 (x10 + bt935.1)) (wrap64 (x11 + 2)))) else ((impl_WaysMany.f k x3 x4).bind fun bt937 => (if bt937.2 = true then (if x10 = x5 then (some (decide (x5 ≤ bt937.1))) else (some false)) else (some false)))
end
def laws_FnWaysOdd.f (k : Nat) (l0 : List Int) : Option (Bool) := if (l0.length : Int) > 1048576 then (some true) else ((spec_DrawWaysOdd.f k l0).bind fun bt929 => ((impl_WaysOdd.f k bt929.1 bt929.2).bind fun bt931 => ((spec_WaysOdd.f k bt929.1 bt929.2).bind fun bt933 => (if bt931.1 = bt933.1 then (laws_FnWaysOdd.j0 k bt929.1 bt929.2 bt931.1 bt931.2 (bt931.2 == bt933.2)) else (laws_FnWaysOdd.j0 k bt929.1 bt929.2 bt931.1 bt931.2 false)))))
theorem laws_FnWaysOdd.mono_l : ∀ k, (∀ y0 y1 y2 y3 y4, LeO (laws_FnWaysOdd.j0 k y0 y1 y2 y3 y4) (laws_FnWaysOdd.j0 (k + 1) y0 y1 y2 y3 y4)) ∧ (∀ y0 y1 y2 y3 y4, LeO (laws_FnWaysOdd.j1 k y0 y1 y2 y3 y4) (laws_FnWaysOdd.j1 (k + 1) y0 y1 y2 y3 y4)) ∧ (∀ y0 y1 y2 y3 y4, LeO (laws_FnWaysOdd.l0 k y0 y1 y2 y3 y4) (laws_FnWaysOdd.l0 (k + 1) y0 y1 y2 y3 y4))
 | 0 => ⟨fun _ _ _ _ _ r h => by simp [laws_FnWaysOdd.j0] at h, fun _ _ _ _ _ r h => by simp [laws_FnWaysOdd.j1] at h, fun _ _ _ _ _ r h => by simp [laws_FnWaysOdd.l0] at h⟩
 | k + 1 => by
  obtain ⟨ih0, ih1, ih2⟩ := laws_FnWaysOdd.mono_l k
  refine ⟨?_, ?_, ?_⟩
  ·intro y0 y1 y2 y3 y4
   unfold laws_FnWaysOdd.j0
   repeat' first
   | (with_reducible exact ih0 _ _ _ _ _)
   | (with_reducible exact ih1 _ _ _ _ _)
   | (with_reducible exact ih2 _ _ _ _ _)
   | (with_reducible exact impl_WaysMany.mono _ _ _)
   | (with_reducible exact impl_WaysOdd.mono _ _ _)
   | (with_reducible exact impl_WaysPart.mono _ _ _ _)
   | (with_reducible exact spec_DrawWaysOdd.mono _ _)
   | (with_reducible exact spec_WaysOdd.mono _ _ _)
   | (with_reducible exact LeO.refl _)
   | (with_reducible exact LeO.none _)
   | (with_reducible refine LeO.ite ?_ ?_)
   | (with_reducible refine LeO.bind ?_ (fun _ => ?_))
   | exact ih0 _ _ _ _ _
   | exact ih1 _ _ _ _ _
   | exact ih2 _ _ _ _ _
   | exact impl_WaysMany.mono _ _ _
   | exact impl_WaysOdd.mono _ _ _
   | exact impl_WaysPart.mono _ _ _ _
   | exact spec_DrawWaysOdd.mono _ _
   | exact spec_WaysOdd.mono _ _ _
   | exact LeO.none _
   | refine LeO.ite ?_ ?_
   | refine LeO.bind ?_ (fun _ => ?_)
  ·intro y0 y1 y2 y3 y4
   unfold laws_FnWaysOdd.j1
   repeat' first
   | (with_reducible exact ih0 _ _ _ _ _)
   | (with_reducible exact ih1 _ _ _ _ _)
   | (with_reducible exact ih2 _ _ _ _ _)
   | (with_reducible exact impl_WaysMany.mono _ _ _)
   | (with_reducible exact impl_WaysOdd.mono _ _ _)
   | (with_reducible exact impl_WaysPart.mono _ _ _ _)
   | (with_reducible exact spec_DrawWaysOdd.mono _ _)
   | (with_reducible exact spec_WaysOdd.mono _ _ _)
   | (with_reducible exact LeO.refl _)
   | (with_reducible exact LeO.none _)
   | (with_reducible refine LeO.ite ?_ ?_)
   | (with_reducible refine LeO.bind ?_ (fun _ => ?_))
   | exact ih0 _ _ _ _ _
   | exact ih1 _ _ _ _ _
   | exact ih2 _ _ _ _ _
   | exact impl_WaysMany.mono _ _ _
   | exact impl_WaysOdd.mono _ _ _
   | exact impl_WaysPart.mono _ _ _ _
   | exact spec_DrawWaysOdd.mono _ _
   | exact spec_WaysOdd.mono _ _ _
   | exact LeO.none _
   | refine LeO.ite ?_ ?_
   | refine LeO.bind ?_ (fun _ => ?_)
  ·intro y0 y1 y2 y3 y4
   unfold laws_FnWaysOdd.l0
   repeat' first
   | (with_reducible exact ih0 _ _ _ _ _)
   | (with_reducible exact ih1 _ _ _ _ _)
   | (with_reducible exact ih2 _ _ _ _ _)
   | (with_reducible exact impl_WaysMany.mono _ _ _)
   | (with_reducible exact impl_WaysOdd.mono _ _ _)
   | (with_reducible exact impl_WaysPart.mono _ _ _ _)
   | (with_reducible exact spec_DrawWaysOdd.mono _ _)
   | (with_reducible exact spec_WaysOdd.mono _ _ _)
   | (with_reducible exact LeO.refl _)
   | (with_reducible exact LeO.none _)
   | (with_reducible refine LeO.ite ?_ ?_)
   | (with_reducible refine LeO.bind ?_ (fun _ => ?_))
   | exact ih0 _ _ _ _ _
   | exact ih1 _ _ _ _ _
   | exact ih2 _ _ _ _ _
   | exact impl_WaysMany.mono _ _ _
   | exact impl_WaysOdd.mono _ _ _
   | exact impl_WaysPart.mono _ _ _ _
   | exact spec_DrawWaysOdd.mono _ _
   | exact spec_WaysOdd.mono _ _ _
   | exact LeO.none _
   | refine LeO.ite ?_ ?_
   | refine LeO.bind ?_ (fun _ => ?_)
theorem laws_FnWaysOdd.mono : ∀ a0 k, LeO (laws_FnWaysOdd.f k a0) (laws_FnWaysOdd.f (k + 1) a0) := by
 intro a0 k
 obtain ⟨ih0, ih1, ih2⟩ := laws_FnWaysOdd.mono_l k
 unfold laws_FnWaysOdd.f
 repeat' first
   | (with_reducible exact ih0 _ _ _ _ _)
   | (with_reducible exact ih1 _ _ _ _ _)
   | (with_reducible exact ih2 _ _ _ _ _)
   | (with_reducible exact impl_WaysMany.mono _ _ _)
   | (with_reducible exact impl_WaysOdd.mono _ _ _)
   | (with_reducible exact impl_WaysPart.mono _ _ _ _)
   | (with_reducible exact spec_DrawWaysOdd.mono _ _)
   | (with_reducible exact spec_WaysOdd.mono _ _ _)
   | (with_reducible exact LeO.refl _)
   | (with_reducible exact LeO.none _)
   | (with_reducible refine LeO.ite ?_ ?_)
   | (with_reducible refine LeO.bind ?_ (fun _ => ?_))
   | exact ih0 _ _ _ _ _
   | exact ih1 _ _ _ _ _
   | exact ih2 _ _ _ _ _
   | exact impl_WaysMany.mono _ _ _
   | exact impl_WaysOdd.mono _ _ _
   | exact impl_WaysPart.mono _ _ _ _
   | exact spec_DrawWaysOdd.mono _ _
   | exact spec_WaysOdd.mono _ _ _
   | exact LeO.none _
   | refine LeO.ite ?_ ?_
   | refine LeO.bind ?_ (fun _ => ?_)
set_option maxHeartbeats 8000000 in
set_option maxRecDepth 100000 in
theorem laws_FnWaysOdd.calls (k : Nat) (A0 : Option Addr) (c0 : Nat) (l0 : List Int) (r : Bool) (w : World) (hr0 : Kd.C (Kd.int .u8) w A0 l0.length l0) (hc0 : l0.length ≤ c0) (h : laws_FnWaysOdd.f k l0 = some r) :
  Calls Try.prog 11 #[.slice A0 l0.length c0] w fun e w' => e = .returned (.bool r) ∧ Below w.heap.size w w' := by
 have HR0 := Aside0.mk hr0
 have HC0 := Aside0.mk hc0
 clear hr0 hc0
 have HB := Aside0.mk (Below.refl w.heap.size w)
 have H : (if (l0.length : Int) > 1048576 then (some true) else ((spec_DrawWaysOdd.f k l0).bind fun bt929 => ((impl_WaysOdd.f k bt929.1 bt929.2).bind fun bt931 => ((spec_WaysOdd.f k bt929.1 bt929.2).bind fun bt933 => (if bt931.1 = bt933.1 then (laws_FnWaysOdd.j0 k bt929.1 bt929.2 bt931.1 bt931.2 (bt931.2 == bt933.2)) else (laws_FnWaysOdd.j0 k bt929.1 bt929.2 bt931.1 bt931.2 false)))))) = some r := h
 clear h
 by_cases c2 : (l0.length : Int) > 1048576
 ·rw [if_pos c2] at H
  have c2b0 : decide (1048576 < (l0.length : Int)) = true := decide_eq_true c2
  have c2b1 : decide (1048576 < l0.length) = true := decide_eq_true (by omega)
  clear c2
  obtain rfl := Option.some.inj H
  go_enter Try.func11, Try.ntmps11
  go_wp2
  go_ret
  exact ⟨by first | rfl | (simp [errW_none, errW_some] <;> rfl) | (simp [errW_none, errW_some]; exact ⟨rfl, rfl⟩) | (simp [errW_none, errW_some]; exact ⟨rfl, rfl, rfl⟩) | (simp [*, errW_none, errW_some] <;> rfl), by repeat (first | (with_reducible first | exact HB.out | apply below_alloc | apply pw_below_drewN | apply below_drew1) | exact HB.out)⟩
 ·rw [if_neg c2] at H
  have c2b0 : decide (1048576 < (l0.length : Int)) = false := decide_eq_false c2
  have c2b1 : decide (1048576 < l0.length) = false := decide_eq_false (by omega)
  clear c2
  replace H := Option.bind_eq_some_iff.mp H
  obtain ⟨⟨t929, t930⟩, A30, H⟩ := H
  replace H : ((impl_WaysOdd.f k t929 t930).bind fun bt931 => ((spec_WaysOdd.f k t929 t930).bind fun bt933 => (if bt931.1 = bt933.1 then (laws_FnWaysOdd.j0 k t929 t930 bt931.1 bt931.2 (bt931.2 == bt933.2)) else (laws_FnWaysOdd.j0 k t929 t930 bt931.1 bt931.2 false)))) = some r := H
  have A3 := Aside0.mk A30
  clear A30
  replace H := Option.bind_eq_some_iff.mp H
  obtain ⟨⟨t931, t932⟩, A40, H⟩ := H
  replace H : ((spec_WaysOdd.f k t929 t930).bind fun bt933 => (if t931 = bt933.1 then (laws_FnWaysOdd.j0 k t929 t930 t931 t932 (t932 == bt933.2)) else (laws_FnWaysOdd.j0 k t929 t930 t931 t932 false))) = some r := H
  have A4 := Aside0.mk A40
  clear A40
  replace H := Option.bind_eq_some_iff.mp H
  obtain ⟨⟨t933, t934⟩, A50, H⟩ := H
  replace H : (if t931 = t933 then (laws_FnWaysOdd.j0 k t929 t930 t931 t932 (t932 == t934)) else (laws_FnWaysOdd.j0 k t929 t930 t931 t932 false)) = some r := H
  have A5 := Aside0.mk A50
  clear A50
  have HC6 := Aside0.mk H
  clear H
  go_enter Try.func11, Try.ntmps11
  go_upto_region 6 with (first | ((with_reducible refine gate_callee (f := 37) rfl ?_); refine goesL_ (some 21) rfl rfl Try.func37 (by kernel_rfl) rfl #[.slice A0 l0.length c0] rfl (by (try simp only [List.map_toArray, List.map_cons, List.map_nil]); first | done | rfl | (simp only [List.length_drop, List.length_take]; rfl)) ?_; (with_reducible refine (spec_DrawWaysOdd.calls k _ _ l0 t929 t930 _ ?side1 ?side2 A3.out).mono ?_); (case side1 => repeat (first | exact HR0.out | (with_reducible refine Kd.C_alloc ?_ _) | (with_reducible refine Kd.C_drewN ?_ _) | (with_reducible refine Kd.C_drew ?_))); (case side2 => exact HC0.out); rintro e w7 ⟨rfl, hb⟩; refine ⟨_, rfl, ?_⟩; have n0_ := Aside0.mk (below_step (by repeat (first | (with_reducible first | exact HB.out | apply below_alloc | apply pw_below_drewN | apply below_drew1) | exact HB.out)) hb); clear HB; have HB := n0_; clear n0_; (try clear hb); (try clear hb2); (try clear hk); (try clear hi)) | ((with_reducible refine gate_callee (f := 38) rfl ?_); refine goesL_ (some 27) rfl rfl Try.func38 (by kernel_rfl) rfl #[.string t929, .int .i64 t930] rfl (by (try simp only [List.map_toArray, List.map_cons, List.map_nil]); first | done | rfl | (simp only [List.length_drop, List.length_take]; rfl)) ?_; (with_reducible refine (impl_WaysOdd.calls k t929 t930 t931 t932 _ A4.out).mono ?_); rintro e w8 ⟨rfl, hb⟩; refine ⟨_, rfl, ?_⟩; have n0_ := Aside0.mk (below_step (by repeat (first | (with_reducible first | exact HB.out | apply below_alloc | apply pw_below_drewN | apply below_drew1) | exact HB.out)) hb); clear HB; have HB := n0_; clear n0_; (try clear hb); (try clear hb2); (try clear hk); (try clear hi)) | ((with_reducible refine gate_callee (f := 39) rfl ?_); refine goesL_ (some 33) rfl rfl Try.func39 (by kernel_rfl) rfl #[.string t929, .int .i64 t930] rfl (by (try simp only [List.map_toArray, List.map_cons, List.map_nil]); first | done | rfl | (simp only [List.length_drop, List.length_take]; rfl)) ?_; (with_reducible refine (spec_WaysOdd.calls k t929 t930 t933 t934 _ A5.out).mono ?_); rintro e w9 ⟨rfl, hb⟩; refine ⟨_, rfl, ?_⟩; have n0_ := Aside0.mk (below_step (by repeat (first | (with_reducible first | exact HB.out | apply below_alloc | apply pw_below_drewN | apply below_drew1) | exact HB.out)) hb); clear HB; have HB := n0_; clear n0_; (try clear hb); (try clear hb2); (try clear hk); (try clear hi)))
  (try simp only [Act.put, List.setIfInBounds_toArray, List.set_cons_zero, List.set_cons_succ])
  go_cut [9] (fun v9 wc => ∃ (kq : Nat) (x9_5 : Bool), v9 = .bool x9_5 ∧ Aside0 (laws_FnWaysOdd.j0 kq t929 t930 t931 t932 x9_5 = some r) ∧ Aside0 (kq ≤ k) ∧ Aside0 (Below w.heap.size w wc))
  case first =>
   have H := HC6.out
   clear HC6
   by_cases c10 : t931 = t933
   ·rw [if_pos c10] at H
    have c10b0 : (t931 == t933) = true := beq_iff_eq.mpr c10
    have c10b1 : (t931 != t933) = false := bne_eq_false_iff_eq.mpr c10
    clear c10
    (first | rw [c10b0] | (simp only [i64_w, i32_w]; rw [c10b0]) | skip)
    have H' := Aside0.mk H
    clear H
    go_wp2
    go_meet
    case rel => exact ⟨_, ((t932 == t934)), (by first | rfl | (simp; done) | (simp [*]; done) | (simp [Int.tmod_eq_emod_of_nonneg]; done)), H', ⟨by first | omega | exact Nat.le_refl _⟩, ⟨by repeat (first | (with_reducible first | exact HB.out | apply below_alloc | apply pw_below_drewN | apply below_drew1) | exact HB.out)⟩⟩
   ·rw [if_neg c10] at H
    have c10b0 : (t931 == t933) = false := beq_eq_false_iff_ne.mpr c10
    have c10b1 : (t931 != t933) = true := bne_iff_ne.mpr c10
    (first | rw [c10b0] | (simp only [i64_w, i32_w]; rw [c10b0]) | skip)
    have H' := Aside0.mk H
    clear H
    go_wp2
    go_meet
    case rel => exact ⟨_, (false), (by first | rfl | (simp; done) | (simp [*]; done) | (simp [Int.tmod_eq_emod_of_nonneg]; done)), H', ⟨by first | omega | exact Nat.le_refl _⟩, ⟨by repeat (first | (with_reducible first | exact HB.out | apply below_alloc | apply pw_below_drewN | apply below_drew1) | exact HB.out)⟩⟩
  case rest =>
   clear HC6
   try clear c1
   try clear c2
   try clear c2b0
   try clear c2b1
   try clear p2
   try clear c3
   try clear c10
   try clear c10b0
   try clear c10b1
   obtain ⟨kq, x9_5, rfl, HA, HJ5, HB⟩ := hcut
   cases kq with
   | zero => exact absurd HA.out (by simp [laws_FnWaysOdd.j0])
   | succ kj5 =>
    have H := HA.out
    clear HA
    simp only [laws_FnWaysOdd.j0] at H
    have HC11 := Aside0.mk H
    clear H
    go_upto_region 7 with (fail)
    go_cut [49] (fun v49 wc => ∃ (kq : Nat) (x49_10 : Bool), v49 = .bool x49_10 ∧ Aside0 (laws_FnWaysOdd.j1 kq t929 t930 t931 x9_5 x49_10 = some r) ∧ Aside0 (kq ≤ kj5) ∧ Aside0 (Below w.heap.size w wc))
    case first =>
     have H := HC11.out
     clear HC11
     by_cases c12 : x9_5 = true
     ·subst c12
      have H1 : (laws_FnWaysOdd.j1 kj5 t929 t930 t931 true (!t932)) = some r := by rw [if_pos rfl] at H; exact H
      clear H
      have H := H1
      clear H1
      have H' := Aside0.mk H
      clear H
      go_wp2
      go_meet
      case rel => exact ⟨_, (!t932), (by first | rfl | (simp; done) | (simp [*]; done) | (simp [Int.tmod_eq_emod_of_nonneg]; done)), H', ⟨by have := HJ5.out; first | omega | exact Nat.le_refl _⟩, ⟨by repeat (first | (with_reducible first | exact HB.out | apply below_alloc | apply pw_below_drewN | apply below_drew1) | exact HB.out)⟩⟩
     ·replace c12 := Bool.eq_false_iff.mpr c12
      subst c12
      have H1 : (laws_FnWaysOdd.j1 kj5 t929 t930 t931 false true) = some r := by rw [if_neg (show ¬ (false = true) by decide)] at H; exact H
      clear H
      have H := H1
      clear H1
      have H' := Aside0.mk H
      clear H
      go_wp2
      go_meet
      case rel => exact ⟨_, (true), (by first | rfl | (simp; done) | (simp [*]; done) | (simp [Int.tmod_eq_emod_of_nonneg]; done)), H', ⟨by have := HJ5.out; first | omega | exact Nat.le_refl _⟩, ⟨by repeat (first | (with_reducible first | exact HB.out | apply below_alloc | apply pw_below_drewN | apply below_drew1) | exact HB.out)⟩⟩
    case rest =>
     clear HC11
     try clear c1
     try clear c2
     try clear c2b0
     try clear c2b1
     try clear p2
     try clear c3
     try clear c10
     try clear c10b0
     try clear c10b1
     try clear c11
     try clear c12
     try clear p2
     obtain ⟨kq, x49_10, rfl, HA, HJ10, HB⟩ := hcut
     cases kq with
     | zero => exact absurd HA.out (by simp [laws_FnWaysOdd.j1])
     | succ kj10 =>
      have H := HA.out
      clear HA
      simp only [laws_FnWaysOdd.j1] at H
      by_cases c13 : x49_10 = true
      ·subst c13
       have H1 : (some x9_5) = some r := by rw [if_pos rfl] at H; exact H
       clear H
       have H := H1
       clear H1
       obtain rfl := Option.some.inj H
       go_wp2
       go_ret
       exact ⟨by first | rfl | (simp [errW_none, errW_some] <;> rfl) | (simp [errW_none, errW_some]; exact ⟨rfl, rfl⟩) | (simp [errW_none, errW_some]; exact ⟨rfl, rfl, rfl⟩) | (simp [*, errW_none, errW_some] <;> rfl), by repeat (first | (with_reducible first | exact HB.out | apply below_alloc | apply pw_below_drewN | apply below_drew1) | exact HB.out)⟩
      ·replace c13 := Bool.eq_false_iff.mpr c13
       subst c13
       have H1 : (laws_FnWaysOdd.l0 kj10 t929 t930 t931 0 1) = some r := by rw [if_neg (show ¬ (false = true) by decide)] at H; exact H
       clear H
       have H := H1
       clear H1
       have H' := Aside0.mk H
       clear H
       go_wp2
       go_loopg [10, 11] kj10 (fun kq v10 v11 w' => ∃ (x10_3 : Int) (x11_3 : Int), v10 = .int .i64 x10_3 ∧ v11 = .int .i64 x11_3 ∧ Aside0 (laws_FnWaysOdd.l0 kq t929 t930 t931 x10_3 x11_3 = some r) ∧ Aside0 (kq ≤ kj10) ∧ Aside0 (Below w.heap.size w w'))
       case atStart => exact ⟨(0), (1), (by first | rfl | (simp; done) | (simp [*]; done) | (simp [Int.tmod_eq_emod_of_nonneg]; done)), (by first | rfl | (simp; done) | (simp [*]; done) | (simp [Int.tmod_eq_emod_of_nonneg]; done)), H', ⟨Nat.le_refl _⟩, ⟨by repeat (first | (with_reducible first | exact HB.out | apply below_alloc | apply pw_below_drewN | apply below_drew1) | exact HB.out)⟩⟩
       case round =>
        clear H'
        try clear c1
        try clear c2
        try clear c2b0
        try clear c2b1
        try clear p2
        try clear c3
        try clear c10
        try clear c10b0
        try clear c10b1
        try clear c11
        try clear c12
        try clear c13
        try clear p2
        obtain ⟨x10_3, x11_3, rfl, rfl, HA, HK3, HB⟩ := hrel
        cases gk with
        | zero => exact absurd HA.out (by simp [laws_FnWaysOdd.l0])
        | succ k3 =>
         have H := HA.out
         clear HA
         simp only [laws_FnWaysOdd.l0] at H
         by_cases c14 : x11_3 ≤ t930
         ·rw [if_pos c14] at H
          have c14b0 : decide (x11_3 ≤ t930) = true := decide_eq_true c14
          clear c14
          replace H := Option.bind_eq_some_iff.mp H
          obtain ⟨⟨t935, t936⟩, A150, H⟩ := H
          replace H : (laws_FnWaysOdd.l0 k3 t929 t930 t931 (wrap64 (x10_3 + t935)) (wrap64 (x11_3 + 2))) = some r := H
          have A15 := Aside0.mk A150
          clear A150
          have H' := Aside0.mk H
          clear H
          go_wp2_with (first | ((with_reducible refine gate_callee (f := 24) rfl ?_); refine goesL_ (some 60) rfl rfl Try.func24 (by kernel_rfl) rfl #[.string t929, .int .i64 t930, .int .i64 x11_3] rfl (by (try simp only [List.map_toArray, List.map_cons, List.map_nil]); first | done | rfl | (simp only [List.length_drop, List.length_take]; rfl)) ?_; (with_reducible refine (impl_WaysPart.calls k3 t929 t930 x11_3 t935 t936 _ A15.out).mono ?_); rintro e w16 ⟨rfl, hb⟩; refine ⟨_, rfl, ?_⟩; have n0_ := Aside0.mk (below_step (by repeat (first | (with_reducible first | exact HB.out | apply below_alloc | apply pw_below_drewN | apply below_drew1) | exact HB.out)) hb); clear HB; have HB := n0_; clear n0_; (try clear hb); (try clear hb2); (try clear hk); (try clear hi)))
          go_roundg k3
          case measure => have := HJ5.out; have := HJ10.out; have := HK3.out; omega
          case rel => exact ⟨(wrap64 (x10_3 + t935)), (wrap64 (x11_3 + 2)), (by first | rfl | (simp; done) | (simp [*]; done) | (simp [Int.tmod_eq_emod_of_nonneg]; done)), (by first | rfl | (simp; done) | (simp [*]; done) | (simp [Int.tmod_eq_emod_of_nonneg]; done)), H', ⟨by have := HJ5.out; have := HJ10.out; have := HK3.out; omega⟩, ⟨by repeat (first | (with_reducible first | exact HB.out | apply below_alloc | apply pw_below_drewN | apply below_drew1) | exact HB.out)⟩⟩
         ·rw [if_neg c14] at H
          have c14b0 : decide (x11_3 ≤ t930) = false := decide_eq_false c14
          clear c14
          replace H := Option.bind_eq_some_iff.mp H
          obtain ⟨⟨t937, t938⟩, A170, H⟩ := H
          replace H : (if t938 = true then (if x10_3 = t931 then (some (decide (t931 ≤ t937))) else (some false)) else (some false)) = some r := H
          have A17 := Aside0.mk A170
          clear A170
          by_cases c18 : t938 = true
          ·subst c18
           have H1 : (if x10_3 = t931 then (some (decide (t931 ≤ t937))) else (some false)) = some r := by rw [if_pos rfl] at H; exact H
           clear H
           have H := H1
           clear H1
           by_cases c19 : x10_3 = t931
           ·rw [if_pos c19] at H
            have c19b0 : (x10_3 == t931) = true := beq_iff_eq.mpr c19
            have c19b1 : (x10_3 != t931) = false := bne_eq_false_iff_eq.mpr c19
            clear c19
            obtain rfl := Option.some.inj H
            go_wp2_with (first | ((with_reducible refine gate_callee (f := 13) rfl ?_); refine goesL_ (some 69) rfl rfl Try.func13 (by kernel_rfl) rfl #[.string t929, .int .i64 t930] rfl (by (try simp only [List.map_toArray, List.map_cons, List.map_nil]); first | done | rfl | (simp only [List.length_drop, List.length_take]; rfl)) ?_; (with_reducible refine (impl_WaysMany.calls k3 t929 t930 t937 true _ A17.out).mono ?_); rintro e w20 ⟨rfl, hb⟩; refine ⟨_, rfl, ?_⟩; have n0_ := Aside0.mk (below_step (by repeat (first | (with_reducible first | exact HB.out | apply below_alloc | apply pw_below_drewN | apply below_drew1) | exact HB.out)) hb); clear HB; have HB := n0_; clear n0_; (try clear hb); (try clear hb2); (try clear hk); (try clear hi)))
            go_ret
            exact ⟨by first | rfl | (simp [errW_none, errW_some] <;> rfl) | (simp [errW_none, errW_some]; exact ⟨rfl, rfl⟩) | (simp [errW_none, errW_some]; exact ⟨rfl, rfl, rfl⟩) | (simp [*, errW_none, errW_some] <;> rfl), by repeat (first | (with_reducible first | exact HB.out | apply below_alloc | apply pw_below_drewN | apply below_drew1) | exact HB.out)⟩
           ·rw [if_neg c19] at H
            have c19b0 : (x10_3 == t931) = false := beq_eq_false_iff_ne.mpr c19
            have c19b1 : (x10_3 != t931) = true := bne_iff_ne.mpr c19
            obtain rfl := Option.some.inj H
            go_wp2_with (first | ((with_reducible refine gate_callee (f := 13) rfl ?_); refine goesL_ (some 69) rfl rfl Try.func13 (by kernel_rfl) rfl #[.string t929, .int .i64 t930] rfl (by (try simp only [List.map_toArray, List.map_cons, List.map_nil]); first | done | rfl | (simp only [List.length_drop, List.length_take]; rfl)) ?_; (with_reducible refine (impl_WaysMany.calls k3 t929 t930 t937 true _ A17.out).mono ?_); rintro e w21 ⟨rfl, hb⟩; refine ⟨_, rfl, ?_⟩; have n0_ := Aside0.mk (below_step (by repeat (first | (with_reducible first | exact HB.out | apply below_alloc | apply pw_below_drewN | apply below_drew1) | exact HB.out)) hb); clear HB; have HB := n0_; clear n0_; (try clear hb); (try clear hb2); (try clear hk); (try clear hi)))
            go_ret
            exact ⟨by first | rfl | (simp [errW_none, errW_some] <;> rfl) | (simp [errW_none, errW_some]; exact ⟨rfl, rfl⟩) | (simp [errW_none, errW_some]; exact ⟨rfl, rfl, rfl⟩) | (simp [*, errW_none, errW_some] <;> rfl), by repeat (first | (with_reducible first | exact HB.out | apply below_alloc | apply pw_below_drewN | apply below_drew1) | exact HB.out)⟩
          ·replace c18 := Bool.eq_false_iff.mpr c18
           subst c18
           have H1 : (some false) = some r := by rw [if_neg (show ¬ (false = true) by decide)] at H; exact H
           clear H
           have H := H1
           clear H1
           obtain rfl := Option.some.inj H
           go_wp2_with (first | ((with_reducible refine gate_callee (f := 13) rfl ?_); refine goesL_ (some 69) rfl rfl Try.func13 (by kernel_rfl) rfl #[.string t929, .int .i64 t930] rfl (by (try simp only [List.map_toArray, List.map_cons, List.map_nil]); first | done | rfl | (simp only [List.length_drop, List.length_take]; rfl)) ?_; (with_reducible refine (impl_WaysMany.calls k3 t929 t930 t937 false _ A17.out).mono ?_); rintro e w22 ⟨rfl, hb⟩; refine ⟨_, rfl, ?_⟩; have n0_ := Aside0.mk (below_step (by repeat (first | (with_reducible first | exact HB.out | apply below_alloc | apply pw_below_drewN | apply below_drew1) | exact HB.out)) hb); clear HB; have HB := n0_; clear n0_; (try clear hb); (try clear hb2); (try clear hk); (try clear hi)))
           go_ret
           exact ⟨by first | rfl | (simp [errW_none, errW_some] <;> rfl) | (simp [errW_none, errW_some]; exact ⟨rfl, rfl⟩) | (simp [errW_none, errW_some]; exact ⟨rfl, rfl, rfl⟩) | (simp [*, errW_none, errW_some] <;> rfl), by repeat (first | (with_reducible first | exact HB.out | apply below_alloc | apply pw_below_drewN | apply below_drew1) | exact HB.out)⟩

/-- THE ONE PURE STATEMENT of laws_FnWaysOdd: yours. -/
def laws_FnWaysOdd.Pure : Prop := ∀ (l0 : List Int), l0.length ≤ maxLen → l0.length * 1 ≤ 140737488351232 → (∀ x ∈ l0, (Lit.int .u8 x).wf = true) → ∃ k, laws_FnWaysOdd.f k l0 = some true
theorem laws_FnWaysOdd.walk (P : laws_FnWaysOdd.Pure) (a0 : Option Addr) (len0 cap0 : Nat) (z0 : List Int) (w : World) (w0 : (a0 = none ∧ len0 = 0 ∧ cap0 = 0 ∧ z0 = []) ∨ ∃ x, a0 = some x ∧ len0 ≤ cap0 ∧ cap0 ≤ maxLen ∧ z0.length = cap0 ∧ (∀ i, i < z0.length → w.cell? (x.add i) = some (.int .u8 (z0.getD i 0))) ∧ ∀ n ∈ z0, (Lit.int .u8 n).wf = true) (y0 : len0 * 1 ≤ 140737488351232) :
  Calls Try.prog 11 #[.slice a0 len0 cap0] w fun e w' => e = .returned (.bool true) ∧ Below w.heap.size w w' := by
 obtain ⟨l0, rfl, hr0, hm0, hw0, hc0⟩ := ReadsInt.ofRowC w0
 obtain ⟨k, h⟩ := P l0 hm0 y0 hw0
 refine (laws_FnWaysOdd.calls k _ _ l0 true w (Kd.C_of_reads (d := (0 : Int)) (h1 := fun _ => rfl) hr0) hc0 h).mono ?_
 rintro e w' ⟨rfl, hd⟩
 exact ⟨rfl, hd⟩

end Go.Proofs.Ytbepcaghlekbaaa.Q

namespace Go.Proofs.Ytbepcaghlekbaaa.Q
open Go.RowKit Go.Proofs.YtbepcaghlekbaaaW.PrintWords Go.Proofs.YtbepcaghlekbaaaW.PrintLast Go.Proofs.YtbepcaghlekbaaaW.PrintMore
attribute [local go_sem] max2_int min2_int max_two min_two max_three min_three max_four min_four   -- for this text's walks alone
set_option linter.unusedVariables false
set_option linter.unusedSimpArgs false

end Go.Proofs.Ytbepcaghlekbaaa.Q

namespace Go.Proofs.Ytbepcaghlekbaaa.Q
open Go.RowKit Go.Proofs.YtbepcaghlekbaaaW.PrintWords Go.Proofs.YtbepcaghlekbaaaW.PrintLast Go.Proofs.YtbepcaghlekbaaaW.PrintMore
attribute [local go_sem] max2_int min2_int max_two min_two max_three min_three max_four min_four   -- for this text's walks alone
set_option linter.unusedVariables false
set_option linter.unusedSimpArgs false

end Go.Proofs.Ytbepcaghlekbaaa.Q

namespace Go.Proofs.Ytbepcaghlekbaaa.Q
open Go.RowKit Go.Proofs.YtbepcaghlekbaaaW.PrintWords Go.Proofs.YtbepcaghlekbaaaW.PrintLast Go.Proofs.YtbepcaghlekbaaaW.PrintMore
attribute [local go_sem] max2_int min2_int max_two min_two max_three min_three max_four min_four   -- for this text's walks alone
set_option linter.unusedVariables false
set_option linter.unusedSimpArgs false

end Go.Proofs.Ytbepcaghlekbaaa.Q

namespace Go.Proofs.Ytbepcaghlekbaaa.Q
open Go.RowKit Go.Proofs.YtbepcaghlekbaaaW.PrintWords Go.Proofs.YtbepcaghlekbaaaW.PrintLast Go.Proofs.YtbepcaghlekbaaaW.PrintMore
open Go.Proofs.Ytbepcaghlekbaaa.Pl (hasB)
set_option linter.unusedVariables false
set_option linter.unusedSimpArgs false
theorem wr {x : Int} (h0 : -9223372036854775808 ≤ x) (h1 : x ≤ 9223372036854775807) : wrap64 x = x := by unfold wrap64; omega
theorem Ev.eq {α : Type} {g f : Nat → Option α} {r : α} (h : g = f) (k : Ev f r) : Ev g r := h ▸ k
theorem Ev.end {α : Type} {g : Nat → Option α} {r : α} (h : ∀ k, g (k + 1) = some r) : Ev g r := ⟨1, fun k hk => by obtain ⟨m, rfl⟩ : ∃ m, k = m + 1 := ⟨k - 1, by omega⟩; exact h m⟩
theorem Ev.const {α : Type} {g : Nat → Option α} {r : α} (h : ∀ k, g k = some r) : Ev g r := ⟨0, fun k _ => h k⟩
theorem Ev.unique {α : Type} {g : Nat → Option α} {r q : α} (h : Ev g r) (k : Ev g q) : r = q := by
  obtain ⟨a, ha⟩ := h
  obtain ⟨b, hb⟩ := k
  have h1 := ha (max a b) (Nat.le_max_left _ _)
  rw [hb (max a b) (Nat.le_max_right _ _)] at h1
  exact (Option.some.inj h1).symm

theorem bt_list (s : ByteArray) (i : Nat) (h : i < s.size) : bt s (i : Int) = ((s.data.toList.getD i 0).toNat : Int) := by
  unfold bt
  rw [dif_pos (by simpa using h)]
  have : s.data.toList.length = s.size := Array.length_toList
  simp [List.getD, h, this]
  rfl
theorem bt_is (s : ByteArray) (i : Nat) (h : i < s.size) (c : UInt8) (n : Int) (hn : n = (c.toNat : Int)) : bt s (i : Int) = n ↔ s.data.toList.getD i 0 = c := by
  rw [bt_list s i h, hn]
  constructor
  · intro h
    exact UInt8.toNat_inj.1 (by exact_mod_cast h)
  · intro h
    rw [h]
theorem drop_getD {α : Type} (l : List α) (i : Nat) (z : α) (h : i < l.length) : l.drop i = l.getD i z :: l.drop (i + 1) := by
  rw [List.drop_eq_getElem_cons h]; simp [List.getD, h]

def okL (l : List UInt8) : Bool := l.all fun c => c == 48 || c == 49
theorem signs_l0 (s : ByteArray) (hs : s.size ≤ 1073741824) (d : Nat) : ∀ (i : Nat) (acc : List Bool), i + d = s.size → acc.length = i →
    Ev (fun k => spec_l1Signs.l0 k s acc i) (if okL (s.data.toList.drop i) then (acc ++ (s.data.toList.drop i).map (· == 49), true) else ([], false)) := by
  have hl : s.data.toList.length = s.size := Array.length_toList
  induction d with
  | zero =>
    intro i acc h1 h2
    refine Ev.end fun k => ?_
    simp only [spec_l1Signs.l0]
    rw [if_neg (by omega), List.drop_of_length_le (by omega)]
    simp [okL]
  | succ d ih =>
    intro i acc h1 h2
    rw [drop_getD _ i 0 (by omega)]
    have hb48 := bt_is s i (by omega) 48 48 rfl
    have hb49 := bt_is s i (by omega) 49 49 rfl
    have hw : wrap64 ((i : Int) + 1) = ((i + 1 : Nat) : Int) := by rw [wr (by omega) (by omega)]; omega
    by_cases c48 : s.data.toList.getD i 0 = 48
    · refine Ev.step (f := fun k => spec_l1Signs.l0 k s (acc ++ [false]) ((i + 1 : Nat) : Int)) (fun k => ?_) ?_
      · simp only [spec_l1Signs.l0]
        have e : bt s (i : Int) = 48 := hb48.2 c48
        rw [if_pos (by omega), if_pos (by omega), if_pos e, if_pos (by omega), hw, e]
        rfl
      · have := ih (i + 1) (acc ++ [false]) (by omega) (by simp [h2])
        rw [c48]
        simpa [okL] using this
    · by_cases c49 : s.data.toList.getD i 0 = 49
      · refine Ev.step (f := fun k => spec_l1Signs.l0 k s (acc ++ [true]) ((i + 1 : Nat) : Int)) (fun k => ?_) ?_
        · simp only [spec_l1Signs.l0]
          have e : bt s (i : Int) = 49 := hb49.2 c49
          rw [if_pos (by omega), if_pos (by omega), if_neg (fun h => c48 (hb48.1 h)), if_pos e, if_pos (by omega), hw]
        · have := ih (i + 1) (acc ++ [true]) (by omega) (by simp [h2])
          rw [c49]
          simpa [okL] using this
      · refine Ev.end fun k => ?_
        simp only [spec_l1Signs.l0]
        rw [if_pos (by omega), if_pos (by omega), if_neg (fun h => c48 (hb48.1 h)), if_neg (fun h => c49 (hb49.1 h))]
        rw [if_neg]
        simp only [okL, List.all_cons, Bool.and_eq_true, Bool.or_eq_true, beq_iff_eq, not_and]
        intro h
        exact absurd h (by simp only [not_or]; exact ⟨c48, c49⟩)
theorem l1Signs_ev (s : ByteArray) (hs : s.size ≤ 1073741824) : Ev (fun k => spec_l1Signs.f k s) (if okL s.data.toList then (s.data.toList.map (· == 49), true) else ([], false)) := by
  have := signs_l0 s hs s.size 0 [] (by omega) rfl
  simpa [spec_l1Signs.f] using this
theorem signs_ev (s : ByteArray) (hs : s.size ≤ 1073741824) : impl_signs.f s = some (if okL s.data.toList then (s.data.toList.map (· == 49), decide ((s.size : Int) ≤ 60)) else ([], false)) := by
  unfold impl_signs.f
  rw [if_pos (by omega)]
  unfold okL impl_signs.ok
  split <;> rfl

theorem index_cases (l : List UInt8) (c : UInt8) : (Lib.indexByte l c = -1 ∧ ∀ i, i < l.length → l.getD i 0 ≠ c) ∨ ∃ i : Nat, i < l.length ∧ Lib.indexByte l c = i ∧ l.getD i 0 = c ∧ ∀ j, j < i → l.getD j 0 ≠ c := by
  induction l with
  | nil => left; exact ⟨rfl, fun i h => absurd h (Nat.not_lt_zero i)⟩
  | cons b l ih =>
    unfold Lib.indexByte
    by_cases hb : b = c
    · right
      exact ⟨0, by simp, by simp [hb], by simp [hb], fun j h => absurd h (Nat.not_lt_zero j)⟩
    · rw [if_neg (by simpa using hb)]
      rcases ih with ⟨h1, h2⟩ | ⟨i, h1, h2, h3, h4⟩
      · left
        refine ⟨by rw [h1]; rfl, fun i hi => ?_⟩
        cases i with
        | zero => simpa using hb
        | succ i => simpa using h2 i (by simpa using hi)
      · right
        refine ⟨i + 1, by simpa using h1, ?_, by simpa using h3, fun j hj => ?_⟩
        · rw [h2, if_neg (by simp only [beq_iff_eq]; omega)]; omega
        · cases j with
          | zero => simpa using hb
          | succ j => simpa using h4 j (by omega)

structure Good (t r : List Bool) : Prop where
  pos : 0 < r.length
  tl : t.length ≤ 60
  rl : r.length ≤ 60
structure IsSet (s : ByteArray) (t r : List Bool) : Prop where
  good : Good t r
  impl : impl_setOf.f s = some (t, r, true)
  spec : Ev (fun k => spec_l1Read.f k s) (t, r, true)
structure NoSet (s : ByteArray) : Prop where
  impl : ∃ a b, impl_setOf.f s = some (a, b, false)
  spec : ∃ a b, Ev (fun k => spec_l1Read.f k s) (a, b, false)

/-- The reader comes to the first bracket, or to the end. -/
theorem read_l0 (s : ByteArray) (hs : s.size ≤ 1073741824) (a b : List Bool) {r : List Bool × List Bool × Bool} (j : Nat) (hj : j ≤ s.size) (hn : ∀ i, i < j → s.data.toList.getD i 0 ≠ 40) (hend : j < s.size → s.data.toList.getD j 0 = 40)
    (h : Ev (fun k => spec_l1Read.j1 k s j a b) r) (d : Nat) : ∀ i, i + d = j → Ev (fun k => spec_l1Read.l0 k s (i : Nat) a b) r := by
  induction d with
  | zero =>
    intro i hi
    obtain rfl : i = j := by omega
    refine Ev.step (fun k => ?_) h
    simp only [spec_l1Read.l0]
    by_cases c : i < s.size
    · rw [if_pos (by omega), if_pos (by omega), if_pos ((bt_is s i c 40 40 rfl).2 (hend c))]
    · rw [if_neg (by omega)]
  | succ d ih =>
    intro i hi
    refine Ev.step (fun k => ?_) (ih (i + 1) (by omega))
    simp only [spec_l1Read.l0]
    have hw : wrap64 ((i : Int) + 1) = ((i + 1 : Nat) : Int) := by rw [wr (by omega) (by omega)]; omega
    rw [if_pos (by omega), if_pos (by omega), if_neg (fun h => hn i (by omega) ((bt_is s i (by omega) 40 40 rfl).1 h)), hw]

theorem size_data (s : ByteArray) : s.data.toList.length = s.size := Array.length_toList
theorem ext_size (s : ByteArray) (a b : Nat) (hb : b ≤ s.size) : (s.extract a b).size = b - a := by simp; omega
theorem ext_list (s : ByteArray) (a b : Nat) : (s.extract a b).data.toList = (s.data.toList.take b).drop a := by
  simp [List.extract_eq_take_drop, List.drop_take]
theorem toList_eq (s : ByteArray) : s.toList = s.data.toList := (Lib.toList_data s).symm ▸ rfl

theorem last_eq {s : ByteArray} {i : Nat} (h : i + 1 < s.size) : ((s.extract (i + 1) s.size).extract ((s.extract (i + 1) s.size).size - 1) (s.extract (i + 1) s.size).size).toList = [s.data.toList.getD (s.size - 1) 0] := by
  rw [toList_eq, ext_list, ext_list, ext_size _ _ _ (Nat.le_refl _)]
  have hl := size_data s
  rw [List.take_of_length_le (l := s.data.toList) (by omega), List.take_of_length_le (by rw [List.length_drop]; omega), List.drop_drop, drop_getD _ _ 0 (by omega), List.drop_of_length_le (by omega)]
  congr 2
  omega
theorem ring_eq {s : ByteArray} {i : Nat} (h : i + 1 < s.size) : (s.extract (i + 1) s.size).extract 0 ((s.extract (i + 1) s.size).size - 1) = s.extract (i + 1) (s.size - 1) := by
  have : ∀ a b : ByteArray, a.data.toList = b.data.toList → a = b := fun a b h => by
    obtain ⟨⟨a⟩⟩ := a; obtain ⟨⟨b⟩⟩ := b; simp at h; simp [h]
  refine this _ _ ?_
  have hl := size_data s
  rw [ext_list, ext_list, ext_list, ext_size _ _ _ (Nat.le_refl _), List.drop_zero, List.take_of_length_le (l := s.data.toList) (by omega), List.drop_take]
  congr 1
  omega

/-- Each text is a set text for both readers, with the same tail and ring, or for none. -/
theorem read_cases (s : ByteArray) (hs : s.size ≤ 1073741824) : NoSet s ∨ ∃ t r, IsSet s t r := by
  have hl := size_data s
  have hsg := fun (x : ByteArray) (hx : x.size ≤ 1073741824) => signs_ev x hx
  rcases index_cases s.data.toList 40 with ⟨h1, h2⟩ | ⟨i, h1, h2, h3, h4⟩
  · left
    refine ⟨?_, ?_⟩
    · have hc : strings_Cut.f s ⟨#[40]⟩ = some (s, ⟨#[]⟩, false) := by
        unfold strings_Cut.f stringslite_Cut.f stringslite_Index.f
        rw [dif_pos (by rfl)]
        show ((some (Lib.indexByte s.data.toList 40)).bind _).bind _ = _
        rw [h1]
        rfl
      have hd : strings_CutSuffix.f ⟨#[]⟩ ⟨#[41]⟩ = some (⟨#[]⟩, false) := by rfl
      refine ⟨(if okL s.data.toList then (s.data.toList.map (· == 49), decide ((s.size : Int) ≤ 60)) else ([], false)).1, [], ?_⟩
      unfold impl_setOf.f
      rw [hc]; simp only [Option.bind_some]
      rw [hd]; simp only [Option.bind_some]
      rw [hsg s hs, hsg ⟨#[]⟩ (by decide)]
      simp only [Option.bind_some]
      rw [if_neg (by simp)]
      rfl
    · refine ⟨[], [false], ?_⟩
      refine read_l0 s hs [] [false] s.size (Nat.le_refl _) (fun i hi => h2 i (by omega)) (fun h => by omega) ?_ s.size 0 (by omega)
      refine Ev.step (f := fun k => spec_l1Read.j2 k s (s.size : Nat) true [] [false]) (fun k => ?_) (Ev.end fun k => ?_)
      · simp only [spec_l1Read.j1]
        rw [if_pos (by rw [wr (by omega) (by omega)]; omega)]
      · simp only [spec_l1Read.j2, if_true]
  · have hi : i < s.size := by omega
    have hc : strings_Cut.f s ⟨#[40]⟩ = some (s.extract 0 i, s.extract (i + 1) s.size, true) := by
      unfold strings_Cut.f stringslite_Cut.f stringslite_Index.f
      rw [dif_pos (by rfl)]
      show ((some (Lib.indexByte s.data.toList 40)).bind _).bind _ = _
      rw [h2]
      simp only [Option.bind_some]
      have hz : ((⟨#[40]⟩ : ByteArray).size : Int) = 1 := rfl
      rw [if_pos (by omega), if_pos (by omega), if_pos (by omega), hz, wr (by omega) (by omega), if_pos (by omega), if_pos (by omega)]
      simp only [Option.bind_some, Int.toNat_natCast]
      rw [show ((i : Int) + 1).toNat = i + 1 from by omega]
    have hz1 : (s.extract (i + 1) s.size).size = s.size - (i + 1) := ext_size _ _ _ (Nat.le_refl _)
    have h41 : ((⟨#[41]⟩ : ByteArray).size : Int) = 1 := rfl
    have hsuf : strings_CutSuffix.f (s.extract (i + 1) s.size) ⟨#[41]⟩ = some (if i + 1 < s.size ∧ s.data.toList.getD (s.size - 1) 0 = 41 then (s.extract (i + 1) (s.size - 1), true) else (s.extract (i + 1) s.size, false)) := by
      unfold strings_CutSuffix.f stringslite_CutSuffix.f stringslite_HasSuffix.f
      rw [h41]
      by_cases c : i + 1 < s.size
      · rw [if_pos (by omega), wr (by omega) (by omega), if_pos (by omega), if_pos (by omega), show (((s.extract (i + 1) s.size).size : Int) - 1).toNat = (s.extract (i + 1) s.size).size - 1 from by omega, last_eq c, ring_eq c]
        simp only [Option.bind_some]
        have hb : ([s.data.toList.getD (s.size - 1) 0] == (⟨#[41]⟩ : ByteArray).toList) = decide (s.data.toList.getD (s.size - 1) 0 = 41) := by
          rw [toList_eq, Bool.eq_iff_iff]; simp
        rw [hb]
        by_cases e : s.data.toList.getD (s.size - 1) 0 = 41
        · rw [decide_eq_true e, if_pos rfl, if_pos (by omega), if_pos (by omega), if_pos ⟨c, e⟩]; rfl
        · rw [decide_eq_false e, if_neg (by simp), if_neg (by intro h; exact e h.2)]; rfl
      · rw [if_neg (by omega)]
        simp only [Option.bind_some, Bool.false_eq_true, if_false]
        rw [if_neg (fun h => c h.1)]
    have hspec : ∀ (r : List Bool × List Bool × Bool), Ev (fun k => spec_l1Read.j1 k s i [] [false]) r → Ev (fun k => spec_l1Read.f k s) r := by
      intro r hr
      exact read_l0 s hs [] [false] i (by omega) (fun j hj => h4 j hj) (fun _ => h3) hr i 0 (by omega)
    have hnull : ∀ x : Bool, x = true → Ev (fun k => spec_l1Read.j2 k s (i : Nat) x [] [false]) (([] : List Bool), [false], false) := by
      intro x hx
      refine Ev.end fun k => ?_
      simp only [spec_l1Read.j2]
      rw [if_pos hx]
    -- for the reader's bracket at the end
    have hj1 : ∀ r, Ev (fun k => spec_l1Read.j2 k s (i : Nat) (decide (s.size ≤ i + 2) || s.data.toList.getD (s.size - 1) 0 != 41) [] [false]) r → Ev (fun k => spec_l1Read.j1 k s i [] [false]) r := by
      intro r hr
      refine Ev.step (fun k => ?_) hr
      simp only [spec_l1Read.j1]
      rw [wr (x := (i : Int) + 2) (by omega) (by omega), wr (x := (s.size : Int) - 1) (by omega) (by omega)]
      by_cases c : s.size ≤ i + 2
      · rw [if_pos (by omega)]; simp [c]
      · rw [if_neg (by omega), if_pos (by omega), if_pos (by omega)]
        rw [show (s.size : Int) - 1 = ((s.size - 1 : Nat) : Int) from by omega]
        congr 1
        simp only [c, decide_false, Bool.false_or]
        have := bt_is s (s.size - 1) (by omega) 41 41 rfl
        rw [Bool.eq_iff_iff]; simp only [bne_iff_ne, ne_eq, this]
    by_cases c : (i + 2 < s.size) ∧ s.data.toList.getD (s.size - 1) 0 = 41
    · obtain ⟨c1, c2⟩ := c
      rw [if_pos ⟨by omega, c2⟩] at hsuf
      have e1 := hsg (s.extract 0 i) (by rw [ext_size _ _ _ (by omega)]; omega)
      have e2 := hsg (s.extract (i + 1) (s.size - 1)) (by rw [ext_size _ _ _ (by omega)]; omega)
      have g1 := l1Signs_ev (s.extract 0 i) (by rw [ext_size _ _ _ (by omega)]; omega)
      have g2 := l1Signs_ev (s.extract (i + 1) (s.size - 1)) (by rw [ext_size _ _ _ (by omega)]; omega)
      have z1 : (s.extract 0 i).size = i := by rw [ext_size _ _ _ (by omega)]; omega
      have z2 : (s.extract (i + 1) (s.size - 1)).size = s.size - i - 2 := by rw [ext_size _ _ _ (by omega)]; omega
      have y1 := size_data (s.extract 0 i)
      have y2 := size_data (s.extract (i + 1) (s.size - 1))
      rw [z1] at e1 y1
      rw [z2] at e2 y2
      have himpl : impl_setOf.f s = (impl_signs.f (s.extract 0 i)).bind fun x => (impl_signs.f (s.extract (i + 1) (s.size - 1))).bind fun y => some (x.1, y.1, x.2 && y.2 && decide ((y.1.length : Int) > 0)) := by
        unfold impl_setOf.f
        rw [hc]; simp only [Option.bind_some]
        rw [hsuf]; simp only [Option.bind_some]
        congr 1; funext x; congr 1; funext y
        cases x.2 <;> cases y.2 <;> simp
      have hj2 : ∀ (x y : List Bool × Bool), Ev (fun k => spec_l1Signs.f k (s.extract 0 i)) x → Ev (fun k => spec_l1Signs.f k (s.extract (i + 1) (s.size - 1))) y →
          Ev (fun k => spec_l1Read.f k s) (if x.2 && y.2 && decide (x.1.length ≤ 60) && decide (y.1.length ≤ 60) then (x.1, y.1, true) else ([], [false], false)) := by
        intro x y hx hy
        refine hspec _ (hj1 _ ?_)
        have : (decide (s.size ≤ i + 2) || s.data.toList.getD (s.size - 1) 0 != 41) = false := by rw [c2]; simp; omega
        rw [this]
        refine Ev.step (f := fun k => (spec_l1Signs.f k (s.extract 0 i)).bind fun bt121 => (spec_l1Signs.f k (s.extract (i + 1) (s.size - 1))).bind fun bt125 => (if bt121.2 = true then (if bt125.2 = true then (if (bt121.1.length : Int) > 60 then (some (([] : List Bool), [false], false)) else (if (bt125.1.length : Int) > 60 then (some ([], [false], false)) else (some (bt121.1, bt125.1, true)))) else (some ([], [false], false))) else (some ([], [false], false)))) (fun k => ?_) ?_
        · simp only [spec_l1Read.j2]
          rw [if_neg (by simp), if_pos (by omega), if_pos (by omega), wr (x := (i : Int) + 1) (by omega) (by omega), wr (x := (s.size : Int) - 1) (by omega) (by omega)]
          simp only [if_pos (show (0 : Int) ≤ (i : Int) + 1 from by omega), if_pos (show (i : Int) + 1 ≤ (s.size : Int) - 1 from by omega), if_pos (show (s.size : Int) - 1 ≤ (s.size : Int) from by omega)]
          rw [Int.toNat_natCast, show ((i : Int) + 1).toNat = i + 1 from by omega, show ((s.size : Int) - 1).toNat = s.size - 1 from by omega]
        · refine Ev.bind hx (Ev.bind hy (Ev.const fun k => ?_))
          obtain ⟨x1, x2⟩ := x
          obtain ⟨y1, y2⟩ := y
          cases x2 <;> cases y2 <;> simp
          by_cases q1 : x1.length ≤ 60
          · by_cases q2 : y1.length ≤ 60
            · rw [if_neg (by omega), if_neg (by omega), if_pos ⟨q1, q2⟩]
            · rw [if_neg (by omega), if_pos (by omega), if_neg (by omega)]
          · rw [if_pos (by omega), if_neg (by omega)]
      have hfin := hj2 _ _ g1 g2
      rw [e1, e2] at himpl
      simp only [Option.bind_some] at himpl
      cases o1 : okL (s.extract 0 i).data.toList with
      | false => left; rw [o1] at himpl hfin; exact ⟨⟨_, _, by rw [himpl]; simp; exact ⟨rfl, rfl⟩⟩, ⟨_, _, by simpa using hfin⟩⟩
      | true =>
        cases o2 : okL (s.extract (i + 1) (s.size - 1)).data.toList with
        | false => left; rw [o1, o2] at himpl hfin; exact ⟨⟨_, _, by rw [himpl]; simp; exact ⟨rfl, rfl⟩⟩, ⟨_, _, by simpa using hfin⟩⟩
        | true =>
          rw [o1, o2] at himpl hfin
          simp only [if_true, List.length_map, Bool.and_self, Bool.true_and] at himpl hfin
          rw [y1, y2] at hfin
          rw [y2] at himpl
          by_cases q : i ≤ 60 ∧ s.size - i - 2 ≤ 60
          · right
            refine ⟨(s.extract 0 i).data.toList.map (· == 49), (s.extract (i + 1) (s.size - 1)).data.toList.map (· == 49), ⟨?_, by rw [List.length_map]; omega, by rw [List.length_map]; omega⟩, himpl.trans ?_, ?_⟩
            · rw [List.length_map]; omega
            · rw [decide_eq_true (show ((i : Nat) : Int) ≤ 60 from by omega), decide_eq_true (show (((s.size - i - 2 : Nat) : Int) ≤ 60) from by omega), decide_eq_true (show (((s.size - i - 2 : Nat) : Int) > 0) from by omega)]
              rfl
            · rw [decide_eq_true q.1, decide_eq_true q.2] at hfin
              exact hfin
          · left
            refine ⟨⟨(s.extract 0 i).data.toList.map (· == 49), (s.extract (i + 1) (s.size - 1)).data.toList.map (· == 49), himpl.trans ?_⟩, ⟨[], [false], ?_⟩⟩
            · congr 3
              by_cases q1 : i ≤ 60
              · rw [decide_eq_false (show ¬ (((s.size - i - 2 : Nat) : Int) ≤ 60) from by omega)]; simp
              · rw [decide_eq_false (show ¬ ((i : Nat) : Int) ≤ 60 from by omega)]; simp
            · by_cases q1 : i ≤ 60
              · rw [decide_eq_false (show ¬ (s.size - i - 2 ≤ 60) from by omega)] at hfin; simpa using hfin
              · rw [decide_eq_false q1] at hfin; simpa using hfin
    · left
      have hcond : (decide (s.size ≤ i + 2) || s.data.toList.getD (s.size - 1) 0 != 41) = true := by
        by_cases q : i + 2 < s.size
        · have : ¬ s.data.toList.getD (s.size - 1) 0 = 41 := fun h => c ⟨q, h⟩
          simp only [Bool.or_eq_true, bne_iff_ne, ne_eq]; exact .inr this
        · simp only [Bool.or_eq_true, decide_eq_true_eq]; exact .inl (by omega)
      refine ⟨?_, ⟨[], [false], hspec _ (hj1 _ (hnull _ hcond))⟩⟩
      have e1 := hsg (s.extract 0 i) (by rw [ext_size _ _ _ (by omega)]; omega)
      unfold impl_setOf.f
      rw [hc]; simp only [Option.bind_some]
      rw [hsuf]; simp only [Option.bind_some]
      by_cases q : i + 1 < s.size ∧ s.data.toList.getD (s.size - 1) 0 = 41
      · rw [if_pos q]
        have hem : (s.extract (i + 1) (s.size - 1)).size = 0 := by
          rw [ext_size _ _ _ (by omega)]
          by_cases q2 : i + 2 < s.size
          · exact absurd ⟨q2, q.2⟩ c
          · omega
        have e2 := hsg (s.extract (i + 1) (s.size - 1)) (by omega)
        have y2 := size_data (s.extract (i + 1) (s.size - 1))
        have hn : (s.extract (i + 1) (s.size - 1)).data.toList = [] := List.length_eq_zero_iff.1 (by omega)
        obtain ⟨p, hp⟩ : ∃ p, impl_signs.f (s.extract 0 i) = some p := ⟨_, e1⟩
        rw [hp, e2, hn]
        simp only [Option.bind_some, okL, List.all_nil, if_true, List.map_nil, List.length_nil]
        refine ⟨p.1, [], ?_⟩
        cases p.2 <;> simp
      · rw [if_neg q, e1]
        simp only [Option.bind_some]
        rw [hsg (s.extract (i + 1) s.size) (by omega)]
        simp only [Option.bind_some]
        exact ⟨_, _, rfl⟩

end Go.Proofs.Ytbepcaghlekbaaa.Q

namespace Go.Proofs.Ytbepcaghlekbaaa.Q
open Go.RowKit Go.Proofs.YtbepcaghlekbaaaW.PrintWords Go.Proofs.YtbepcaghlekbaaaW.PrintLast Go.Proofs.YtbepcaghlekbaaaW.PrintMore
open Go.Proofs.Ytbepcaghlekbaaa.Pl
set_option linter.unusedVariables false
set_option linter.unusedSimpArgs false
theorem rdOf_nat (l : List Bool) (n : Nat) : rdOf false l (n : Int) = l.getD n false := by simp [rdOf]
theorem tmod_nat (a b : Nat) : Int.tmod (a : Int) (b : Int) = ((a % b : Nat) : Int) := by
  rw [Int.tmod_eq_emod_of_nonneg (Int.natCast_nonneg a)]; exact (Int.natCast_emod a b).symm
theorem tdiv_nat (a b : Nat) : Int.tdiv (a : Int) (b : Int) = ((a / b : Nat) : Int) := by
  rw [Int.tdiv_eq_ediv_of_nonneg (Int.natCast_nonneg a)]; exact (Int.natCast_ediv a b).symm
theorem wr1 {n : Nat} (h : n ≤ 4611686018427387904) : wrap64 ((n : Int) + 1) = ((n + 1 : Nat) : Int) := by rw [wr (by omega) (by omega)]; omega

theorem set_has {t r : List Bool} (h : Good t r) (n : Nat) (hn : n ≤ 4611686018427387904) : impl_set_has.f t r n = some (hasB t r n) := by
  have h1 := h.pos
  have h2 := h.tl
  have h3 := h.rl
  unfold impl_set_has.f
  rw [if_neg (by omega)]
  by_cases c : n < t.length
  · rw [if_pos (by omega), if_pos (by omega), rdOf_nat, hasB_lt c]
  · have e : wrap64 ((n : Int) - (t.length : Int)) = ((n - t.length : Nat) : Int) := by rw [wr (by omega) (by omega)]; omega
    have hm := Nat.mod_lt (n - t.length) h1
    rw [if_neg (by omega), if_neg (by omega), e, tmod_nat, if_pos (by omega), if_pos (by omega), rdOf_nat, hasB_ge (by omega)]
theorem l1_has {t r : List Bool} (h : Good t r) (n : Nat) (hn : n ≤ 4611686018427387904) : spec_l1Has.f t r n = some (hasB t r n) := by
  have h1 := h.pos
  have h2 := h.tl
  have h3 := h.rl
  unfold spec_l1Has.f
  by_cases c : n < t.length
  · rw [if_pos (by omega), if_pos (by omega), rdOf_nat, hasB_lt c]
  · have e : wrap64 ((n : Int) - (t.length : Int)) = ((n - t.length : Nat) : Int) := by rw [wr (by omega) (by omega)]; omega
    have hm := Nat.mod_lt (n - t.length) h1
    rw [if_neg (by omega), if_neg (by omega), e, tmod_nat, if_pos (by omega), if_pos (by omega), rdOf_nat, hasB_ge (by omega)]


theorem wrm1 {n : Nat} (h0 : 1 ≤ n) (h : n ≤ 4611686018427387904) : wrap64 ((n : Int) - 1) = ((n - 1 : Nat) : Int) := by rw [wr (by omega) (by omega)]; omega

theorem turns_l0 (r : List Bool) (hr : r.length ≤ 1073741824) (d : Nat) (hd : 1 ≤ d) (hdl : d ≤ r.length) (m : Nat) : ∀ i, i + m = r.length → (∀ j, j < i → r.getD j false = r.getD (j % d) false) →
    ∃ b : Bool, Ev (fun k => impl_turns.l0 k r d (r.length : Int) (i : Nat)) b ∧ (b = true ↔ per r d) := by
  induction m with
  | zero =>
    intro i hi hall
    refine ⟨decide (r.length % d = 0), Ev.end fun k => ?_, ?_⟩
    · simp only [impl_turns.l0]
      rw [if_neg (by omega), if_neg (by omega), ← Int.natCast_emod]
      congr 1
      rw [Bool.eq_iff_iff]
      simp only [beq_iff_eq, decide_eq_true_eq]
      omega
    · rw [decide_eq_true_eq]
      exact ⟨fun h => ⟨h, fun j hj => hall j (by omega)⟩, fun h => h.1⟩
  | succ m ih =>
    intro i hi hall
    have hm := Nat.mod_lt i (show d > 0 by omega)
    by_cases c : r.getD i false = r.getD (i % d) false
    · obtain ⟨b, h1, h2⟩ := ih (i + 1) (by omega) (fun j hj => by
        rcases Nat.lt_or_ge j i with h | h
        · exact hall j h
        · obtain rfl : j = i := by omega
          exact c)
      refine ⟨b, Ev.step (fun k => ?_) h1, h2⟩
      simp only [impl_turns.l0]
      rw [if_pos (by omega), if_pos (by omega), if_pos (by omega), if_neg (by omega), tmod_nat, if_pos (by omega), if_pos (by omega), rdOf_nat, rdOf_nat, wr1 (by omega), if_neg (by rw [c]; simp)]
    · refine ⟨false, Ev.end fun k => ?_, ?_⟩
      · simp only [impl_turns.l0]
        rw [if_pos (by omega), if_pos (by omega), if_pos (by omega), if_neg (by omega), tmod_nat, if_pos (by omega), if_pos (by omega), rdOf_nat, rdOf_nat, if_pos (by simpa using c)]
      · exact ⟨fun h => absurd h (by simp), fun h => absurd (h.2 i (by omega)) c⟩
theorem turns_ev (r : List Bool) (hr : r.length ≤ 1073741824) (d : Nat) (hd : 1 ≤ d) (hdl : d ≤ r.length) : ∃ b : Bool, Ev (fun k => impl_turns.f k r d) b ∧ (b = true ↔ per r d) :=
  turns_l0 r hr d hd hdl r.length 0 (by omega) (fun j hj => absurd hj (Nat.not_lt_zero j))

theorem rot_append {r : List Bool} : ([r.getD (r.length - 1) false] : List Bool) ++ r.take (r.length - 1) = rot r := by
  simp [rot, List.dropLast_eq_take]

/-- The tail made short. -/
theorem tidy_l1 (n : Nat) : ∀ (t r : List Bool), t.length = n → t.length ≤ 1073741824 → 0 < r.length → r.length ≤ 1073741824 → (∀ d, 1 ≤ d → d < r.length → ¬ per r d) →
    ∃ t' r', Ev (fun k => impl_set_tidy.l1 k (r.length : Int) t r) (t', r') ∧ Canon t' r' ∧ (∀ m, hasB t' r' m = hasB t r m) ∧ t'.length ≤ t.length ∧ r'.length ≤ r.length := by
  induction n with
  | zero =>
    intro t r ht _ h1 h2 h3
    refine ⟨t, r, Ev.end fun k => ?_, ⟨h1, h3, fun m hm => by omega⟩, fun m => rfl, Nat.le_refl _, Nat.le_refl _⟩
    simp only [impl_set_tidy.l1]
    rw [if_neg (by omega)]
  | succ n ih =>
    intro t r ht htl h1 h2 h3
    have e1 : wrap64 ((t.length : Int) - 1) = (n : Nat) := by rw [wrm1 (by omega) (by omega)]; omega
    by_cases c : t.getD n false = r.getD (r.length - 1) false
    · have hl : (t.take n).length = n := by rw [List.length_take]; omega
      obtain ⟨t', r', g1, g2, g3, g4, g5⟩ := ih (t.take n) (rot r) hl (by omega) (by rw [rot_length h1]; exact h1) (by rw [rot_length h1]; exact h2) (fun d hd1 hd2 hp => by rw [rot_length h1] at hd2; exact h3 d hd1 hd2 (per_rot h1 hd1 hp))
      rw [rot_length h1] at g1 g5
      refine ⟨t', r', Ev.step (fun k => ?_) g1, g2, fun m => by rw [g3, has_rot ht h1 c], by omega, g5⟩
      simp only [impl_set_tidy.l1]
      rw [if_pos (by omega), e1, if_pos (by omega), if_pos (by omega), wrm1 h1 (by omega), if_pos (by omega), if_pos (by omega), rdOf_nat, rdOf_nat, if_pos (by rw [c]; simp), if_pos (by omega)]
      simp only [Option.bind_some]
      rw [if_pos (by omega)]
      rw [if_pos (by simp; omega), Int.toNat_natCast, Int.toNat_natCast, rot_append]
    · refine ⟨t, r, Ev.end fun k => ?_, ⟨h1, h3, fun m hm => (show n = m by omega) ▸ c⟩, fun m => rfl, Nat.le_refl _, Nat.le_refl _⟩
      simp only [impl_set_tidy.l1]
      rw [if_pos (by omega), e1, if_pos (by omega), if_pos (by omega), wrm1 h1 (by omega), if_pos (by omega), if_pos (by omega), rdOf_nat, rdOf_nat, if_neg (by simpa using c)]

theorem tidy_l0 (t r : List Bool) (ht : t.length ≤ 1073741824) (h1 : 0 < r.length) (h2 : r.length ≤ 1073741824) (m : Nat) : ∀ d, d + m = r.length → 1 ≤ d → (∀ e, 1 ≤ e → e < d → ¬ per r e) →
    ∃ t' r', Ev (fun k => impl_set_tidy.l0 k (d : Nat) t r) (t', r') ∧ Canon t' r' ∧ (∀ m, hasB t' r' m = hasB t r m) ∧ t'.length ≤ t.length ∧ r'.length ≤ r.length := by
  induction m with
  | zero =>
    intro d hd hd1 hno
    obtain ⟨b, hb, hb2⟩ := turns_ev r h2 d hd1 (by omega)
    have hp : per r d := ⟨by rw [show r.length = d from by omega]; exact Nat.mod_self d, fun i hi => by rw [Nat.mod_eq_of_lt (by omega)]⟩
    have hl : (r.take d).length = d := by rw [List.length_take]; omega
    obtain ⟨t', r', g1, g2, g3, g4, g5⟩ := tidy_l1 t.length t (r.take d) rfl ht (by omega) (by omega) (fun e he1 he2 hpe => hno e he1 (by omega) (per_take hd1 he1 (by omega) hp hpe))
    rw [hl] at g1 g5
    refine ⟨t', r', ?_, g2, fun m => by rw [g3, has_take hd1 h1 hp (by omega)], g4, by omega⟩
    refine Ev.step (f := fun k => (impl_turns.f k r d).bind fun x => if x = true then impl_set_tidy.l1 k d t (r.take d) else impl_set_tidy.l0 k (wrap64 (d + 1)) t r) (fun k => ?_) ?_
    · simp only [impl_set_tidy.l0, slices_Clone_bool_bool.f]
      rw [if_pos (by omega)]
      simp only [Option.bind_some]
      rw [if_pos (by omega), if_pos (by omega), Int.toNat_natCast, if_pos (by omega)]
      simp only [Option.bind_some]
    · exact Ev.bind hb (by simp only [if_pos (hb2.2 hp)]; exact g1)
  | succ m ih =>
    intro d hd hd1 hno
    obtain ⟨b, hb, hb2⟩ := turns_ev r h2 d hd1 (by omega)
    have hl : (r.take d).length = d := by rw [List.length_take]; omega
    have key : ∃ t' r', Ev (fun k => if b = true then impl_set_tidy.l1 k d t (r.take d) else impl_set_tidy.l0 k (wrap64 ((d : Nat) + 1)) t r) (t', r') ∧ Canon t' r' ∧ (∀ m, hasB t' r' m = hasB t r m) ∧ t'.length ≤ t.length ∧ r'.length ≤ r.length := by
      by_cases c : b = true
      · have hp := hb2.1 c
        obtain ⟨t', r', g1, g2, g3, g4, g5⟩ := tidy_l1 t.length t (r.take d) rfl ht (by omega) (by omega) (fun e he1 he2 hpe => hno e he1 (by omega) (per_take hd1 he1 (by omega) hp hpe))
        rw [hl] at g1 g5
        refine ⟨t', r', ?_, g2, fun m => by rw [g3, has_take hd1 h1 hp (by omega)], g4, by omega⟩
        simp only [if_pos c]
        exact g1
      · obtain ⟨t', r', g1, g2, g3, g4, g5⟩ := ih (d + 1) (by omega) (by omega) (fun e he1 he2 hpe => by
          rcases Nat.lt_or_ge e d with h | h
          · exact hno e he1 h hpe
          · obtain rfl : e = d := by omega
            exact c (hb2.2 hpe))
        refine ⟨t', r', ?_, g2, g3, g4, g5⟩
        simp only [if_neg c]
        rw [wr1 (by omega)]
        exact g1
    obtain ⟨t', r', g1, g2⟩ := key
    refine ⟨t', r', ?_, g2⟩
    refine Ev.step (f := fun k => (impl_turns.f k r d).bind fun x => if x = true then impl_set_tidy.l1 k d t (r.take d) else impl_set_tidy.l0 k (wrap64 (d + 1)) t r) (fun k => ?_) (Ev.bind hb g1)
    simp only [impl_set_tidy.l0, slices_Clone_bool_bool.f]
    rw [if_pos (by omega)]
    simp only [Option.bind_some]
    rw [if_pos (by omega), if_pos (by omega), Int.toNat_natCast, if_pos (by omega)]
    simp only [Option.bind_some]

theorem tidy_ev {t r : List Bool} (h : Good t r) : ∃ t' r', Ev (fun k => impl_set_tidy.f k t r) (t', r') ∧ Canon t' r' ∧ (∀ m, hasB t' r' m = hasB t r m) ∧ t'.length ≤ t.length ∧ r'.length ≤ r.length := by
  have h1 := h.pos
  have h2 := h.tl
  have h3 := h.rl
  exact tidy_l0 t r (by omega) h1 (by omega) (r.length - 1) 1 (by omega) (by omega) (fun e he1 he2 => by omega)

/-- 'comes again behind d' in the reference's words. -/
theorem per_steps (r : List Bool) (d : Nat) (hd : 1 ≤ d) : (∀ i, d ≤ i → i < r.length → r.getD i false = r.getD (i - d) false) ↔ ∀ i, i < r.length → r.getD i false = r.getD (i % d) false := by
  constructor
  · intro h i
    induction i using Nat.strongRecOn with
    | _ i ih =>
      intro hi
      rcases Nat.lt_or_ge i d with c | c
      · rw [Nat.mod_eq_of_lt c]
      · rw [h i c hi, ih (i - d) (by omega) (by omega), ← Nat.mod_eq_sub_mod c]
  · intro h i h1 h2
    rw [h i h2, h (i - d) (by omega), ← Nat.mod_eq_sub_mod h1]

/-- The reference's inner loop. -/
theorem less_l1 (t r : List Bool) (hr : r.length ≤ 1073741824) (d : Nat) (hd : 1 ≤ d) (hdl : d < r.length) (g : Bool → Nat → Option (List Bool × List Bool))
    (hgt : ∀ k, g true k = (spec_l1Less.f k t (r.take d)).bind fun x => some (x.1, x.2)) (hgf : ∀ k, g false k = spec_l1Less.l0 k (r.length : Int) ((d + 1 : Nat) : Int) t r) (res : List Bool × List Bool) (m : Nat) :
    ∀ i (b : Bool), i + m = r.length → d ≤ i → (b = true ↔ r.length % d = 0 ∧ ∀ j, d ≤ j → j < i → r.getD j false = r.getD (j - d) false) →
      (∀ c : Bool, (c = true ↔ r.length % d = 0 ∧ ∀ j, d ≤ j → j < r.length → r.getD j false = r.getD (j - d) false) → Ev (g c) res) → Ev (fun k => spec_l1Less.l1 k (r.length : Int) (d : Nat) b (i : Nat) t r) res := by
  induction m with
  | zero =>
    intro i b hi hdi hb hres
    obtain rfl : i = r.length := by omega
    refine Ev.step (fun k => ?_) (hres b hb)
    simp only [spec_l1Less.l1]
    rw [if_neg (by omega)]
    cases b with
    | true => rw [if_pos rfl, if_pos (by omega), if_pos (by omega), Int.toNat_natCast, hgt]
    | false => rw [if_neg (by simp), wr1 (by omega), hgf]
  | succ m ih =>
    intro i b hi hdi hb hres
    cases b with
    | true =>
      have h1 := hb.1 rfl
      have e : wrap64 ((i : Int) - (d : Int)) = ((i - d : Nat) : Int) := by rw [wr (by omega) (by omega)]; omega
      refine Ev.step (fun k => ?_) (ih (i + 1) (r.getD i false == r.getD (i - d) false) (by omega) (by omega) ?_ hres)
      · simp only [spec_l1Less.l1, if_true]
        rw [if_pos (by omega), if_pos (by omega), if_pos (by omega), e, if_pos (by omega), if_pos (by omega), rdOf_nat, rdOf_nat, wr1 (by omega)]
      · rw [beq_iff_eq]
        constructor
        · intro c
          refine ⟨h1.1, fun j hj1 hj2 => ?_⟩
          rcases Nat.lt_or_ge j i with h | h
          · exact h1.2 j hj1 h
          · obtain rfl : j = i := by omega
            exact c
        · intro c
          exact c.2 i hdi (by omega)
    | false =>
      refine Ev.step (fun k => ?_) (hres false ⟨fun h => (by cases h), fun h => (hb.2 ⟨h.1, fun j hj1 hj2 => h.2 j hj1 (by omega)⟩)⟩)
      simp only [spec_l1Less.l1]
      rw [if_pos (by omega), if_neg (by simp), wr1 (by omega), hgf]

theorem less_ev (n : Nat) : ∀ t r : List Bool, t.length + r.length = n → t.length ≤ 1073741824 → 0 < r.length → r.length ≤ 1073741824 →
    ∃ t' r', Ev (fun k => spec_l1Less.f k t r) (t', r') ∧ Canon t' r' ∧ (∀ m, hasB t' r' m = hasB t r m) ∧ t'.length ≤ t.length ∧ r'.length ≤ r.length := by
  induction n using Nat.strongRecOn with
  | _ n ih =>
    intro t r hn ht h1 h2
    have loop : ∀ m d, d + m = r.length → 1 ≤ d → (∀ e, 1 ≤ e → e < d → ¬ per r e) → ∃ t' r', Ev (fun k => spec_l1Less.l0 k (r.length : Int) (d : Nat) t r) (t', r') ∧ Canon t' r' ∧ (∀ m, hasB t' r' m = hasB t r m) ∧ t'.length ≤ t.length ∧ r'.length ≤ r.length := by
      intro m
      induction m with
      | zero =>
        intro d hd hd1 hno
        obtain rfl : d = r.length := by omega
        by_cases ct : t.length = 0
        · refine ⟨t, r, Ev.end fun k => ?_, ⟨h1, hno, fun m hm => by omega⟩, fun m => rfl, Nat.le_refl _, Nat.le_refl _⟩
          simp only [spec_l1Less.l0]
          rw [if_neg (by omega), if_neg (by omega)]
        · obtain ⟨q, hq⟩ : ∃ q, t.length = q + 1 := ⟨t.length - 1, by omega⟩
          have e1 : wrap64 ((t.length : Int) - 1) = (q : Nat) := by rw [wrm1 (by omega) (by omega)]; omega
          by_cases c : t.getD q false = r.getD (r.length - 1) false
          · have hl : (t.take q).length = q := by rw [List.length_take]; omega
            obtain ⟨t', r', g1, g2, g3, g4, g5⟩ := ih (q + r.length) (by omega) (t.take q) (rot r) (by rw [rot_length h1, hl]) (by omega) (by rw [rot_length h1]; exact h1) (by rw [rot_length h1]; exact h2)
            rw [rot_length h1] at g5
            refine ⟨t', r', Ev.step (f := fun k => (spec_l1Less.f k (t.take q) (rot r)).bind fun x => some (x.1, x.2)) (fun k => ?_) (Ev.bind g1 (Ev.now _)), g2, fun m => by rw [g3, has_rot hq h1 c], by omega, g5⟩
            simp only [spec_l1Less.l0]
            rw [if_neg (by omega), if_pos (by omega), e1, if_pos (by omega), if_pos (by omega), wrm1 h1 (by omega), if_pos (by omega), if_pos (by omega), rdOf_nat, rdOf_nat, if_pos (by rw [c]; simp)]
            simp only [Option.bind_some]
            rw [if_pos (by omega)]
            rw [if_pos (by simp; omega), if_pos (by omega), Int.toNat_natCast, Int.toNat_natCast, rot_append]
          · refine ⟨t, r, Ev.end fun k => ?_, ⟨h1, hno, fun m hm => (show q = m by omega) ▸ c⟩, fun m => rfl, Nat.le_refl _, Nat.le_refl _⟩
            simp only [spec_l1Less.l0]
            rw [if_neg (by omega), if_pos (by omega), e1, if_pos (by omega), if_pos (by omega), wrm1 h1 (by omega), if_pos (by omega), if_pos (by omega), rdOf_nat, rdOf_nat, if_neg (by simpa using c)]
      | succ m ihm =>
        intro d hd hd1 hno
        have hl : (r.take d).length = d := by rw [List.length_take]; omega
        have hstep : ∀ res, Ev (fun k => spec_l1Less.l1 k (r.length : Int) (d : Nat) (decide (r.length % d = 0)) (d : Nat) t r) res → Ev (fun k => spec_l1Less.l0 k (r.length : Int) (d : Nat) t r) res := by
          intro res hres
          refine Ev.step (fun k => ?_) hres
          simp only [spec_l1Less.l0]
          rw [if_pos (by omega), if_neg (by omega), tmod_nat]
          congr 1
          rw [Bool.eq_iff_iff]
          simp only [beq_iff_eq, decide_eq_true_eq]
          omega
        by_cases hp : per r d
        · obtain ⟨t', r', g1, g2, g3, g4, g5⟩ := ih (t.length + d) (by omega) t (r.take d) (by rw [hl]) ht (by omega) (by omega)
          refine ⟨t', r', hstep _ ?_, g2, fun m => by rw [g3, has_take hd1 h1 hp (by omega)], g4, by omega⟩
          refine less_l1 t r h2 d hd1 (by omega) (fun b k => if b = true then (spec_l1Less.f k t (r.take d)).bind fun x => some (x.1, x.2) else spec_l1Less.l0 k (r.length : Int) ((d + 1 : Nat) : Int) t r) (fun k => if_pos rfl) (fun k => if_neg (by simp)) (t', r') m.succ d (decide (r.length % d = 0)) (by omega) (Nat.le_refl _) ?_ ?_
          · rw [decide_eq_true_eq]
            exact ⟨fun h => ⟨h, fun j a b => by omega⟩, fun h => h.1⟩
          · intro c hc
            have : c = true := hc.2 ⟨hp.1, (per_steps r d hd1).2 hp.2⟩
            subst this
            simp only [if_true]
            exact Ev.bind g1 (Ev.now _)
        · obtain ⟨t', r', g1, g2, g3, g4, g5⟩ := ihm (d + 1) (by omega) (by omega) (fun e he1 he2 hpe => by
            rcases Nat.lt_or_ge e d with h | h
            · exact hno e he1 h hpe
            · obtain rfl : e = d := by omega
              exact hp hpe)
          refine ⟨t', r', hstep _ ?_, g2, g3, g4, g5⟩
          refine less_l1 t r h2 d hd1 (by omega) (fun b k => if b = true then (spec_l1Less.f k t (r.take d)).bind fun x => some (x.1, x.2) else spec_l1Less.l0 k (r.length : Int) ((d + 1 : Nat) : Int) t r) (fun k => if_pos rfl) (fun k => if_neg (by simp)) (t', r') m.succ d (decide (r.length % d = 0)) (by omega) (Nat.le_refl _) ?_ ?_
          · rw [decide_eq_true_eq]
            exact ⟨fun h => ⟨h, fun j a b => by omega⟩, fun h => h.1⟩
          · intro c hc
            have : ¬ c = true := fun h => hp ⟨(hc.1 h).1, (per_steps r d hd1).1 (hc.1 h).2⟩
            simp only [if_neg this]
            exact g1
    obtain ⟨t', r', g1, g2⟩ := loop (r.length - 1) 1 (by omega) (by omega) (fun e he1 he2 => by omega)
    exact ⟨t', r', Ev.step (fun k => by simp only [spec_l1Less.f]; rfl) g1, g2⟩

/-- The tidy form of a set, for both. -/
structure Tidied (t r t' r' : List Bool) : Prop where
  impl : Ev (fun k => impl_set_tidy.f k t r) (t', r')
  spec : Ev (fun k => spec_l1Less.f k t r) (t', r')
  canon : Canon t' r'
  same : ∀ n, hasB t' r' n = hasB t r n
  good : Good t' r'
  tle : t'.length ≤ t.length
  rle : r'.length ≤ r.length
theorem tidied {t r : List Bool} (h : Good t r) : ∃ t' r', Tidied t r t' r' := by
  have h1 := h.pos
  have h2 := h.tl
  have h3 := h.rl
  obtain ⟨t', r', g1, g2, g3, g4, g5⟩ := tidy_ev h
  obtain ⟨t2, r2, k1, k2, k3, k4, k5⟩ := less_ev (t.length + r.length) t r rfl (by omega) h1 (by omega)
  obtain ⟨rfl, rfl⟩ := canon_unique g2 k2 (fun n => by rw [g3, k3])
  exact ⟨t', r', g1, k1, g2, g3, ⟨g2.pos, by omega, by omega⟩, g4, g5⟩


structure IsSmall (s : ByteArray) (t r : List Bool) : Prop where
  orig : ∃ t0 r0, IsSet s t0 r0 ∧ Tidied t0 r0 t r
  good : Good t r
  tl : t.length ≤ 8
  rl : r.length ≤ 8
  impl : Ev (fun k => impl_small.f k s) (t, r, true)
  spec : Ev (fun k => spec_l4Small.f k s) (t, r, true)
structure NoSmall (s : ByteArray) : Prop where
  impl : ∃ a b, Ev (fun k => impl_small.f k s) (a, b, false)
  spec : ∃ a b, Ev (fun k => spec_l4Small.f k s) (a, b, false)
theorem small_cases (s : ByteArray) (hs : s.size ≤ 1073741824) : NoSmall s ∨ ∃ t r, IsSmall s t r := by
  rcases read_cases s hs with h | ⟨t0, r0, h⟩
  · left
    obtain ⟨⟨a, b, ha⟩, ⟨a', b', hb⟩⟩ := h
    refine ⟨⟨[], [], ?_⟩, ⟨a', b', ?_⟩⟩
    · unfold impl_small.f impl_tidied.f
      rw [ha]; simp only [Option.bind_some, Bool.false_eq_true, if_false]
      exact Ev.now _
    · unfold spec_l4Small.f
      refine Ev.bind hb ?_
      simp only [Bool.false_eq_true, if_false]
      exact Ev.now _
  · obtain ⟨t, r, hT⟩ := tidied h.good
    have hi : Ev (fun k => impl_small.f k s) (t, r, decide ((t.length : Int) ≤ 8) && decide ((r.length : Int) ≤ 8)) := by
      unfold impl_small.f impl_tidied.f
      rw [h.impl]; simp only [Option.bind_some, if_true]
      refine Ev.bind (a := (t, r, true)) (Ev.bind hT.impl (Ev.now _)) (Ev.const fun k => ?_)
      rw [if_pos rfl]
      by_cases c : (t.length : Int) ≤ 8
      · rw [if_pos c, decide_eq_true c]; rfl
      · rw [if_neg c, decide_eq_false c]; rfl
    have hs : Ev (fun k => spec_l4Small.f k s) (t, r, decide ((t.length : Int) ≤ 8) && decide ((r.length : Int) ≤ 8)) := by
      unfold spec_l4Small.f
      refine Ev.bind h.spec ?_
      simp only [if_true]
      refine Ev.bind hT.spec (Ev.const fun k => ?_)
      by_cases c : (t.length : Int) ≤ 8
      · rw [if_pos c, decide_eq_true c]; rfl
      · rw [if_neg c, decide_eq_false c]; rfl
    by_cases c : t.length ≤ 8 ∧ r.length ≤ 8
    · right
      rw [decide_eq_true (by omega), decide_eq_true (by omega)] at hi hs
      exact ⟨t, r, ⟨t0, r0, h, hT⟩, hT.good, c.1, c.2, hi, hs⟩
    · left
      have : (decide ((t.length : Int) ≤ 8) && decide ((r.length : Int) ≤ 8)) = false := by
        by_cases c1 : t.length ≤ 8
        · rw [decide_eq_false (show ¬ (r.length : Int) ≤ 8 by omega), Bool.and_false]
        · rw [decide_eq_false (show ¬ (t.length : Int) ≤ 8 by omega), Bool.false_and]
      rw [this] at hi hs
      exact ⟨⟨t, r, hi⟩, ⟨t, r, hs⟩⟩
theorem getD_set_ne (l : List Bool) {i j : Nat} (v : Bool) (h : i ≠ j) : (l.set i v).getD j false = l.getD j false := by simp [List.getD, h]
theorem in_eq' (a b c : Int) : impl_in.f a b c = some (decide (b ≤ a ∧ a ≤ c)) := by
  unfold impl_in.f
  by_cases h : b ≤ a
  · rw [if_pos h]; simp [h]
  · rw [if_neg (by omega), decide_eq_false (by omega)]
theorem l6In_eq' (a b c : Int) : spec_l6In.f a b c = some (decide (b ≤ a ∧ a ≤ c)) := by
  unfold spec_l6In.f
  by_cases h : b ≤ a
  · rw [if_pos h]; simp [h]
  · rw [if_neg (by omega), decide_eq_false (by omega)]


theorem wrs' {a b : Nat} (h : b ≤ a) (ha : a ≤ 4611686018427387904) : wrap64 ((a : Int) - (b : Int)) = ((a - b : Nat) : Int) := by rw [wr (by omega) (by omega)]; omega
theorem wra {a b : Nat} (h : a + b ≤ 4611686018427387904) : wrap64 ((a : Int) + (b : Int)) = ((a + b : Nat) : Int) := by rw [wr (by omega) (by omega)]; omega
theorem rd_nat (l : List Int) (n : Nat) : rd l (n : Int) = l.getD n 0 := by simp [rd]
theorem getI_set_self (l : List Int) (i : Nat) (v : Int) (h : i < l.length) : (l.set i v).getD i 0 = v := by simp [List.getD, h]
theorem getI_set_ne (l : List Int) {i j : Nat} (v : Int) (h : i ≠ j) : (l.set i v).getD j 0 = l.getD j 0 := by simp [List.getD, h]
theorem getI_rep (m j : Nat) : (List.replicate m (0 : Int)).getD j 0 = 0 := by
  simp only [List.getD, List.getElem?_replicate]; split <;> rfl
/-- A list of whole numbers that tells f up to its length. -/
structure TellsI (l : List Int) (f : Nat → Int) (m : Nat) : Prop where
  len : l.length = m
  get : ∀ j, j < m → l.getD j 0 = f j
/-- The numbers of f from 1 to n, in order. -/
def stp (f : Nat → Bool) : Nat → List Int
  | 0 => []
  | n + 1 => if f (n + 1) = true then stp f n ++ [((n + 1 : Nat) : Int)] else stp f n
theorem stp_yes {f : Nat → Bool} {n : Nat} (h : f (n + 1) = true) : stp f (n + 1) = stp f n ++ [((n + 1 : Nat) : Int)] := by simp only [stp]; rw [if_pos h]
theorem stp_no {f : Nat → Bool} {n : Nat} (h : ¬ f (n + 1) = true) : stp f (n + 1) = stp f n := by simp only [stp]; rw [if_neg h]
theorem stp_len_le (f : Nat → Bool) (n : Nat) : (stp f n).length ≤ n := by
  induction n with
  | zero => exact Nat.le_refl _
  | succ n ih =>
    by_cases c : f (n + 1) = true
    · rw [stp_yes c, List.length_append]; simp; omega
    · rw [stp_no c]; omega
theorem stp_pre (f : Nat → Bool) (q d : Nat) : ∃ m, stp f (q + d) = stp f q ++ m := by
  induction d with
  | zero => exact ⟨[], by simp⟩
  | succ d ih =>
    obtain ⟨m, hm⟩ := ih
    by_cases c : f (q + d + 1) = true
    · exact ⟨m ++ [((q + d + 1 : Nat) : Int)], by rw [← Nat.add_assoc, stp_yes c, hm, List.append_assoc]⟩
    · exact ⟨m, by rw [← Nat.add_assoc, stp_no c, hm]⟩
theorem stp_get {f : Nat → Bool} {q n : Nat} (h : f (q + 1) = true) (hq : q < n) : (stp f q).length < (stp f n).length ∧ (stp f n).getD (stp f q).length 0 = ((q + 1 : Nat) : Int) := by
  obtain ⟨m, hm⟩ := stp_pre f (q + 1) (n - (q + 1))
  rw [show q + 1 + (n - (q + 1)) = n from by omega, stp_yes h] at hm
  rw [hm]
  constructor
  · simp [List.length_append]
  · rw [List.append_assoc]; simp [List.getD]
theorem stp_len_yes {f : Nat → Bool} {q : Nat} (h : f (q + 1) = true) : (stp f (q + 1)).length = (stp f q).length + 1 := by rw [stp_yes h, List.length_append]; rfl
theorem stp_len_no {f : Nat → Bool} {q : Nat} (h : ¬ f (q + 1) = true) : (stp f (q + 1)).length = (stp f q).length := by rw [stp_no h]

theorem steps_l0 {t r : List Bool} (h : Good t r) (n : Nat) (hn : n ≤ 1000000) (d : Nat) : ∀ q, q + d = n → Ev (fun k => impl_steps.l0 k n (stp (hasB t r) q) ((q + 1 : Nat) : Int) t r) (stp (hasB t r) n, true) := by
  induction d with
  | zero =>
    intro q hq
    obtain rfl : q = n := by omega
    refine Ev.end fun k => ?_
    simp only [impl_steps.l0]
    rw [if_neg (by omega)]
  | succ d ih =>
    intro q hq
    have k1 := ih (q + 1) (by omega)
    have hl := stp_len_le (hasB t r) q
    refine Ev.step (fun k => ?_) k1
    simp only [impl_steps.l0]
    rw [if_pos (by omega), set_has h (q + 1) (by omega)]
    simp only [Option.bind_some]
    by_cases c : hasB t r (q + 1) = true
    · rw [if_pos c, if_pos (by omega), wr1 (by omega), stp_yes c]
    · rw [if_neg c, wr1 (by omega), stp_no c]
theorem steps_yes {s : ByteArray} {t r : List Bool} (h : IsSmall s t r) (n : Nat) (lim : Int) (hn : (n : Int) ≤ lim) (hl : lim ≤ 1000000) : Ev (fun k => impl_steps.f k s n lim) (stp (hasB t r) n, true) := by
  have hin : impl_in.f n 0 lim = some true := by rw [in_eq', decide_eq_true (by omega)]
  unfold impl_steps.f
  refine Ev.bind h.impl ?_
  simp only [if_true, hin, Option.bind_some]
  exact Ev.step (fun k => by simp only [impl_steps.j0, Bool.not_true, Bool.false_eq_true, if_false]; rfl) (steps_l0 h.good n (by omega) n 0 (by omega))
theorem steps_no {s : ByteArray} {n lim : Int} (hs : NoSmall s ∨ ∃ t r, IsSmall s t r) (h : NoSmall s ∨ ¬ (0 ≤ n ∧ n ≤ lim)) : Ev (fun k => impl_steps.f k s n lim) ([], false) := by
  have i0 : ∀ a b, Ev (fun k => impl_steps.j0 k n true a b) ([], false) := fun a b => Ev.end fun k => by simp only [impl_steps.j0, if_true]
  unfold impl_steps.f
  rcases hs with g | ⟨t, r, g⟩
  · obtain ⟨a, b, g1⟩ := g.impl
    refine Ev.bind g1 ?_
    simp only [Bool.false_eq_true, if_false]
    exact i0 _ _
  · rcases h with h | h
    · obtain ⟨a, b, g1⟩ := h.impl
      have := Ev.unique g1 g.impl
      simp at this
    · have hin : impl_in.f n 0 lim = some false := by rw [in_eq', decide_eq_false h]
      refine Ev.bind g.impl ?_
      simp only [if_true, hin, Option.bind_some, Bool.not_false]
      exact i0 _ _
theorem given_yes {s : ByteArray} {t r : List Bool} (h : IsSmall s t r) (n : Nat) (lim : Int) (hn : (n : Int) ≤ lim) : Ev (fun k => spec_l9Given.f k s n lim) (t, r, true) := by
  have hin : spec_l6In.f n 0 lim = some true := by rw [l6In_eq', decide_eq_true (by omega)]
  unfold spec_l9Given.f
  refine Ev.bind h.spec ?_
  simp only [if_true, hin, Option.bind_some]
  exact Ev.now _
theorem given_no {s : ByteArray} {n lim : Int} (hs : NoSmall s ∨ ∃ t r, IsSmall s t r) (h : NoSmall s ∨ ¬ (0 ≤ n ∧ n ≤ lim)) : ∃ a b, Ev (fun k => spec_l9Given.f k s n lim) (a, b, false) := by
  unfold spec_l9Given.f
  rcases hs with g | ⟨t, r, g⟩
  · obtain ⟨a, b, g1⟩ := g.spec
    refine ⟨a, b, Ev.bind g1 ?_⟩
    simp only [Bool.false_eq_true, if_false]
    exact Ev.now _
  · rcases h with h | h
    · obtain ⟨a, b, g1⟩ := h.spec
      have := Ev.unique g1 g.spec
      simp at this
    · have hin : spec_l6In.f n 0 lim = some false := by rw [l6In_eq', decide_eq_false h]
      refine ⟨t, r, Ev.bind g.spec ?_⟩
      simp only [if_true, hin, Option.bind_some]
      exact Ev.now _

theorem W_le_bound (f : Nat → Bool) {n : Nat} (h : n ≤ 60) : W f n ≤ 1152921504606846976 := Nat.le_trans (W_le f n) (Nat.pow_le_pow_right (by omega) h)
theorem S_le_more (g : Nat → Nat) (m d : Nat) : S g m ≤ S g (m + d) := by
  induction d with
  | zero => exact Nat.le_refl _
  | succ d ih => rw [← Nat.add_assoc]; simp only [S]; omega
/-- The part of W f i that the numbers up to q make. -/
def pW (f : Nat → Bool) (i q : Nat) : Nat := (if i = 0 then 1 else 0) + S (fun y => if f y = true ∧ y ≤ i then W f (i - y) else 0) q
theorem pW_far (f : Nat → Bool) (i q : Nat) (h : i ≤ q) : pW f i q = W f i := by
  unfold pW
  rw [S_more (m := i) h (fun y a b => by rw [if_neg (by omega)])]
  rcases Nat.eq_zero_or_pos i with h0 | h0
  · subst h0; rfl
  · rw [if_neg (by omega), W_pos_eq f h0, Nat.zero_add]
    exact S_congr fun y a b => by by_cases c : f y = true <;> simp [c, b]
theorem pW_le (f : Nat → Bool) (i q : Nat) : pW f i q ≤ W f i := by
  rw [← pW_far f i (q + i) (by omega)]
  unfold pW
  exact Nat.add_le_add_left (S_le_more _ q i) _
theorem pW_zero (f : Nat → Bool) (i : Nat) : pW f i 0 = if i = 0 then 1 else 0 := rfl
theorem pW_succ (f : Nat → Bool) (i q : Nat) : pW f i (q + 1) = pW f i q + if f (q + 1) = true ∧ q + 1 ≤ i then W f (i - (q + 1)) else 0 := by
  unfold pW; simp only [S]; omega
theorem counts_l1 (f : Nat → Bool) (n : Nat) (hn : n ≤ 60) (i : Nat) (hi : i ≤ n) (P : List Int → Prop)
    (hend : ∀ l : List Int, l.length = n + 1 → (∀ j, j ≤ n → l.getD j 0 = if j < i + 1 then ((W f j : Nat) : Int) else 0) → ∃ l', Ev (fun k => impl_counts.l0 k (stp f n) l ((n + 1 : Nat) : Int) ((i + 1 : Nat) : Int)) l' ∧ P l') (d : Nat) :
    ∀ (q : Nat) (l : List Int), q + d = n → l.length = n + 1 → (∀ j, j ≤ n → l.getD j 0 = if j < i then ((W f j : Nat) : Int) else if j = i then ((pW f i q : Nat) : Int) else 0) →
      ∃ l', Ev (fun k => impl_counts.l1 k (stp f n) l (i : Nat) ((n + 1 : Nat) : Int) (i : Nat) (stp f n) ((stp f n).length : Int) (((stp f q).length : Nat) : Int)) l' ∧ P l' := by
  induction d with
  | zero =>
    intro q l hq hl ha
    obtain rfl : q = n := by omega
    obtain ⟨l', k1, k2⟩ := hend l hl fun j hj => by
      rw [ha j hj, pW_far f i q hi]
      by_cases c : j < i
      · rw [if_pos c, if_pos (by omega)]
      · rw [if_neg c]
        by_cases c2 : j = i
        · subst c2; rw [if_pos rfl, if_pos (by omega)]
        · rw [if_neg c2, if_neg (by omega)]
    refine ⟨l', Ev.step (fun k => ?_) k1, k2⟩
    simp only [impl_counts.l1]
    rw [if_neg (by omega), wr1 (by omega)]
  | succ d ih =>
    intro q l hq hl ha
    by_cases c : f (q + 1) = true
    · obtain ⟨g1, g2⟩ := stp_get (n := n) c (by omega)
      have hsl := stp_len_le f n
      have hlen := stp_len_yes c
      by_cases c2 : q + 1 ≤ i
      · have hW := W_le_bound f (n := i - (q + 1)) (by omega)
        have hW2 := W_le_bound f (n := i) (by omega)
        have hp := pW_le f i q
        have e1 : l.getD (i - (q + 1)) 0 = ((W f (i - (q + 1)) : Nat) : Int) := by rw [ha _ (by omega), if_pos (by omega)]
        have e2 : l.getD i 0 = ((pW f i q : Nat) : Int) := by rw [ha i hi, if_neg (by omega), if_pos rfl]
        obtain ⟨l', k1, k2⟩ := ih (q + 1) (l.set i ((pW f i (q + 1) : Nat) : Int)) (by omega) (by rw [List.length_set, hl]) (fun j hj => by
          by_cases cj : j = i
          · subst cj
            rw [getI_set_self _ _ _ (by omega), if_neg (by omega), if_pos rfl]
          · rw [getI_set_ne _ _ (fun h => cj h.symm), ha j hj, if_neg cj, if_neg cj])
        refine ⟨l', Ev.step (fun k => ?_) k1, k2⟩
        simp only [impl_counts.l1]
        rw [if_pos (by omega), if_pos (by omega), if_pos (by omega), rd_nat, g2, if_pos (by omega), if_pos (by omega), if_pos (by omega), wrs' (by omega) (by omega), if_pos (by omega), if_pos (by omega), rd_nat, rd_nat, e1, e2, wra (by omega), hlen, wr1 (by omega), Int.toNat_natCast, pW_succ, if_pos ⟨c, c2⟩]
      · obtain ⟨l', k1, k2⟩ := ih (q + 1) l (by omega) hl (fun j hj => by rw [ha j hj, pW_succ, if_neg (c := f (q + 1) = true ∧ q + 1 ≤ i) (fun h => c2 h.2), Nat.add_zero])
        refine ⟨l', Ev.step (fun k => ?_) k1, k2⟩
        simp only [impl_counts.l1]
        rw [if_pos (by omega), if_pos (by omega), if_pos (by omega), rd_nat, g2, if_neg (by omega), hlen, wr1 (by omega)]
    · rw [← stp_len_no c]
      exact ih (q + 1) l (by omega) hl (fun j hj => by rw [ha j hj, pW_succ, if_neg (c := f (q + 1) = true ∧ q + 1 ≤ i) (fun h => c h.1), Nat.add_zero])
theorem counts_l0 (f : Nat → Bool) (n : Nat) (hn : n ≤ 60) (d : Nat) : ∀ (i : Nat) (l : List Int), i + d = n + 1 → l.length = n + 1 → (∀ j, j ≤ n → l.getD j 0 = if j < i then ((W f j : Nat) : Int) else if j = 0 then 1 else 0) → ∃ l', Ev (fun k => impl_counts.l0 k (stp f n) l ((n + 1 : Nat) : Int) (i : Nat)) l' ∧ TellsI l' (fun j => ((W f j : Nat) : Int)) (n + 1) := by
  induction d with
  | zero =>
    intro i l hi hl ha
    obtain rfl : i = n + 1 := by omega
    refine ⟨l, Ev.end fun k => ?_, hl, fun j hj => by rw [ha j (by omega), if_pos hj]⟩
    simp only [impl_counts.l0]
    rw [if_neg (by omega)]
  | succ d ih =>
    intro i l hi hl ha
    obtain ⟨l', k1, k2⟩ := counts_l1 f n hn i (by omega) (fun l' => TellsI l' (fun j => ((W f j : Nat) : Int)) (n + 1)) (fun l hl ha => ih (i + 1) l (by omega) hl (fun j hj => (ha j hj).trans (by split; rfl; rw [if_neg (by omega)]))) n 0 l (by omega) hl (fun j hj => by
        rw [ha j hj, pW_zero]
        by_cases c : j < i
        · rw [if_pos c, if_pos c]
        · rw [if_neg c, if_neg c]
          by_cases c2 : j = i
          · subst c2; rw [if_pos rfl]; split <;> rfl
          · rw [if_neg c2, if_neg (by omega)])
    refine ⟨l', Ev.step (fun k => ?_) k1, k2⟩
    simp only [impl_counts.l0]
    rw [if_pos (by omega)]
    rfl
theorem rep_one (n j : Nat) : ((List.replicate (n + 1) (0 : Int)).set 0 1).getD j 0 = if j = 0 then 1 else 0 := by
  by_cases c : j = 0
  · subst c; rw [getI_set_self _ _ _ (by simp), if_pos rfl]
  · rw [getI_set_ne _ _ (fun h => c h.symm), getI_rep, if_neg c]
theorem counts_ev (f : Nat → Bool) (n : Nat) (hn : n ≤ 60) : ∃ l, Ev (fun k => impl_counts.f k (stp f n) n) l ∧ TellsI l (fun j => ((W f j : Nat) : Int)) (n + 1) := by
  obtain ⟨l, k1, k2⟩ := counts_l0 f n hn (n + 1) 0 ((List.replicate (n + 1) (0 : Int)).set 0 1) (by omega) (by simp) (fun j hj => by rw [rep_one, if_neg (c := j < 0) (by omega)])
  refine ⟨l, ?_, k2⟩
  have e : wrap64 ((n : Int) + 1) = ((n + 1 : Nat) : Int) := wr1 (by omega)
  unfold impl_counts.f
  simp only [e, if_pos (show (0 : Int) ≤ ((n + 1 : Nat) : Int) by omega), Int.toNat_natCast, if_pos (show n + 1 ≤ 35184372088832 by omega), Option.bind_some, List.length_replicate, List.length_set, if_pos (show (0 : Int) < ((n + 1 : Nat) : Int) by omega)]
  exact k1

theorem bit_eq (b : Bool) : spec_l1Bit.f b = some (if b = true then 1 else 0) := by cases b <;> rfl
theorem waysMany_impl {s : ByteArray} {t r : List Bool} (h : IsSmall s t r) (n : Nat) (hn : n ≤ 40) : Ev (fun k => impl_WaysMany.f k s n) (((W (hasB t r) n : Nat) : Int), true) := by
  obtain ⟨l, k1, k2⟩ := counts_ev (hasB t r) n (by omega)
  have := k2.len
  unfold impl_WaysMany.f
  refine Ev.bind (steps_yes h n 40 (by omega) (by omega)) ?_
  simp only [if_true]
  refine Ev.bind k1 (Ev.const fun k => ?_)
  rw [if_pos (by omega), if_pos (by omega), rd_nat, k2.get n (by omega)]

theorem P_bound (f : Nat → Bool) (k : Nat) {n : Nat} (h : n ≤ 60) : P f k n ≤ 1152921504606846976 := Nat.le_trans (P_le f k n) (W_le_bound f h)
/-- The ways to n with 0, 1 .. m - 1 numbers. -/
def rows (f : Nat → Bool) (n m : Nat) : List Int := (List.range m).map fun k => ((P f k n : Nat) : Int)
theorem rows_len (f : Nat → Bool) (n m : Nat) : (rows f n m).length = m := by simp [rows]
theorem rows_succ (f : Nat → Bool) (n m : Nat) : rows f n (m + 1) = rows f n m ++ [((P f m n : Nat) : Int)] := by simp [rows, List.range_succ]
theorem rows_get (f : Nat → Bool) (n : Nat) {m k : Nat} (h : k < m) : (rows f n m).getD k 0 = ((P f k n : Nat) : Int) := by simp [rows, List.getD, h]
/-- The part of P f (k + 1) i that the numbers up to q make. -/
def pP (f : Nat → Bool) (k i q : Nat) : Nat := S (fun y => if f y = true ∧ y ≤ i then P f k (i - y) else 0) q
theorem pP_far (f : Nat → Bool) (k i q : Nat) (h : i ≤ q) : pP f k i q = P f (k + 1) i := by
  unfold pP
  rw [S_more (m := i) h (fun y a b => by rw [if_neg (by omega)])]
  simp only [P]
  exact S_congr fun y a b => by by_cases c : f y = true <;> simp [c, b]
theorem pP_le (f : Nat → Bool) (k i q : Nat) : pP f k i q ≤ P f (k + 1) i := by
  rw [← pP_far f k i (q + i) (by omega)]
  exact S_le_more _ q i
theorem pP_succ (f : Nat → Bool) (k i q : Nat) : pP f k i (q + 1) = pP f k i q + if f (q + 1) = true ∧ q + 1 ≤ i then P f k (i - (q + 1)) else 0 := by
  unfold pP; simp only [S]

theorem parts_l2 (f : Nat → Bool) (n : Nat) (hn : n ≤ 60) (k : Nat) (w T : List Int) (hw : TellsI w (fun j => ((P f k j : Nat) : Int)) (n + 1)) (m p : Nat) (i : Nat) (hi : i ≤ n) (res : List Int × Bool)
    (hend : ∀ l : List Int, l.length = n + 1 → (∀ j, j ≤ n → l.getD j 0 = if j < i + 1 then ((P f (k + 1) j : Nat) : Int) else 0) → Ev (fun k => impl_parts.l1 k n (stp f n) w T l m p ((n + 1 : Nat) : Int) ((i + 1 : Nat) : Int)) res) (d : Nat) :
    ∀ (q : Nat) (l : List Int), q + d = n → l.length = n + 1 → (∀ j, j ≤ n → l.getD j 0 = if j < i then ((P f (k + 1) j : Nat) : Int) else if j = i then ((pP f k i q : Nat) : Int) else 0) →
      Ev (fun k => impl_parts.l2 k n (stp f n) w T l (i : Nat) m p ((n + 1 : Nat) : Int) (i : Nat) (stp f n) (((stp f n).length : Nat) : Int) (((stp f q).length : Nat) : Int)) res := by
  have hwl := hw.len
  induction d with
  | zero =>
    intro q l hq hl ha
    obtain rfl : q = n := by omega
    refine Ev.step (fun k => ?_) (hend l hl fun j hj => by
      rw [ha j hj, pP_far f k i q hi]
      by_cases c : j < i
      · rw [if_pos c, if_pos (by omega)]
      · rw [if_neg c]
        by_cases c2 : j = i
        · subst c2; rw [if_pos rfl, if_pos (by omega)]
        · rw [if_neg c2, if_neg (by omega)])
    simp only [impl_parts.l2]
    rw [if_neg (by omega), wr1 (by omega)]
  | succ d ih =>
    intro q l hq hl ha
    by_cases c : f (q + 1) = true
    · obtain ⟨g1, g2⟩ := stp_get (n := n) c (by omega)
      have hsl := stp_len_le f n
      have hlen := stp_len_yes c
      by_cases c2 : q + 1 ≤ i
      · have hW := P_bound f k (n := i - (q + 1)) (by omega)
        have hW2 := P_bound f (k + 1) (n := i) (by omega)
        have hp := pP_le f k i q
        have e1 : w.getD (i - (q + 1)) 0 = ((P f k (i - (q + 1)) : Nat) : Int) := hw.get _ (by omega)
        have e2 : l.getD i 0 = ((pP f k i q : Nat) : Int) := by rw [ha i hi, if_neg (by omega), if_pos rfl]
        have k1 := ih (q + 1) (l.set i ((pP f k i (q + 1) : Nat) : Int)) (by omega) (by rw [List.length_set, hl]) (fun j hj => by
          by_cases cj : j = i
          · subst cj
            rw [getI_set_self _ _ _ (by omega), if_neg (by omega), if_pos rfl]
          · rw [getI_set_ne _ _ (fun h => cj h.symm), ha j hj, if_neg cj, if_neg cj])
        refine Ev.step (fun k => ?_) k1
        simp only [impl_parts.l2]
        rw [if_pos (by omega), if_pos (by omega), if_pos (by omega), rd_nat, g2, if_pos (by omega), if_pos (by omega), if_pos (by omega), wrs' (by omega) (by omega), if_pos (by omega), if_pos (by omega), rd_nat, rd_nat, e1, e2, wra (by omega), hlen, wr1 (by omega), Int.toNat_natCast, pP_succ, if_pos ⟨c, c2⟩]
      · have k1 := ih (q + 1) l (by omega) hl (fun j hj => by rw [ha j hj, pP_succ, if_neg (c := f (q + 1) = true ∧ q + 1 ≤ i) (fun h => c2 h.2)]; rfl)
        refine Ev.step (fun k => ?_) k1
        simp only [impl_parts.l2]
        rw [if_pos (by omega), if_pos (by omega), if_pos (by omega), rd_nat, g2, if_neg (by omega), hlen, wr1 (by omega)]
    · rw [← stp_len_no c]
      exact ih (q + 1) l (by omega) hl (fun j hj => by rw [ha j hj, pP_succ, if_neg (c := f (q + 1) = true ∧ q + 1 ≤ i) (fun h => c h.1)]; rfl)
theorem parts_l1 (f : Nat → Bool) (n : Nat) (hn : n ≤ 60) (k : Nat) (w T : List Int) (hT : T.length ≤ 1000) (hw : TellsI w (fun j => ((P f k j : Nat) : Int)) (n + 1)) (m p : Nat) (hp : p ≤ 1000) (res : List Int × Bool)
    (hend : ∀ l : List Int, TellsI l (fun j => ((P f (k + 1) j : Nat) : Int)) (n + 1) → Ev (fun q => impl_parts.l0 q n (stp f n) l (T ++ [((P f (k + 1) n : Nat) : Int)]) m ((p + 1 : Nat) : Int)) res) (d : Nat) :
    ∀ (i : Nat) (l : List Int), i + d = n + 1 → l.length = n + 1 → (∀ j, j ≤ n → l.getD j 0 = if j < i then ((P f (k + 1) j : Nat) : Int) else 0) →
      Ev (fun k => impl_parts.l1 k n (stp f n) w T l m p ((n + 1 : Nat) : Int) (i : Nat)) res := by
  induction d with
  | zero =>
    intro i l hi hl ha
    obtain rfl : i = n + 1 := by omega
    have e : l.getD n 0 = ((P f (k + 1) n : Nat) : Int) := by rw [ha n (by omega), if_pos (by omega)]
    refine Ev.step (fun k => ?_) (hend l ⟨hl, fun j hj => by rw [ha j (by omega), if_pos hj]⟩)
    simp only [impl_parts.l1]
    rw [if_neg (by omega), if_pos (by omega), if_pos (by omega), if_pos (by omega), rd_nat, e, wr1 (by omega)]
  | succ d ih =>
    intro i l hi hl ha
    refine Ev.step (fun k => ?_) (parts_l2 f n hn k w T hw m p i (by omega) res (fun l hl ha => ih (i + 1) l (by omega) hl ha) n 0 l (by omega) hl (fun j hj => by
      rw [ha j hj]
      by_cases c : j < i
      · rw [if_pos c, if_pos c]
      · rw [if_neg c, if_neg c]; split <;> rfl))
    simp only [impl_parts.l1]
    rw [if_pos (by omega)]
    rfl
theorem parts_l0 (f : Nat → Bool) (n : Nat) (hn : n ≤ 60) (m : Nat) (hm : m ≤ 60) (d : Nat) : ∀ (k : Nat) (w : List Int), k + d = m → TellsI w (fun j => ((P f k j : Nat) : Int)) (n + 1) →
    Ev (fun q => impl_parts.l0 q n (stp f n) w (rows f n (k + 1)) m (k : Nat)) (rows f n (m + 1), true) := by
  induction d with
  | zero =>
    intro k w hk hw
    obtain rfl : k = m := by omega
    refine Ev.end fun q => ?_
    simp only [impl_parts.l0]
    rw [if_neg (by omega)]
  | succ d ih =>
    intro k w hk hw
    have e : wrap64 ((n : Int) + 1) = ((n + 1 : Nat) : Int) := wr1 (by omega)
    refine Ev.step (fun q => ?_) (parts_l1 f n hn k w (rows f n (k + 1)) (by rw [rows_len]; omega) hw m k (by omega) _ (fun l hl => by rw [← rows_succ]; exact ih (k + 1) l (by omega) hl) (n + 1) 0 (List.replicate (n + 1) 0) (by omega) (by simp) (fun j hj => by rw [getI_rep, if_neg (by omega)]))
    simp only [impl_parts.l0, e, Int.toNat_natCast, Option.bind_some, List.length_replicate]
    rw [if_pos (by omega), if_pos (by omega), if_pos (by omega)]
    rfl
theorem ones_P (f : Nat → Bool) (n : Nat) : TellsI ((List.replicate (n + 1) (0 : Int)).set 0 1) (fun j => ((P f 0 j : Nat) : Int)) (n + 1) :=
  ⟨by simp, fun j hj => by rw [rep_one]; simp only [P]; split <;> rfl⟩
theorem parts_yes {s : ByteArray} {t r : List Bool} (h : IsSmall s t r) (n m : Nat) (hn : n ≤ 40) (hm : m ≤ 40) : Ev (fun k => impl_parts.f k s n m) (rows (hasB t r) n (m + 1), true) := by
  have e : wrap64 ((n : Int) + 1) = ((n + 1 : Nat) : Int) := wr1 (by omega)
  have o := (ones_P (hasB t r) n).get n (by omega)
  unfold impl_parts.f
  refine Ev.bind (steps_yes h n 40 (by omega) (by omega)) ?_
  simp only [if_true, e, if_pos (show (0 : Int) ≤ ((n + 1 : Nat) : Int) by omega), Int.toNat_natCast, if_pos (show n + 1 ≤ 35184372088832 by omega), Option.bind_some, List.length_replicate, if_pos (show (0 : Int) < ((n + 1 : Nat) : Int) by omega), if_pos (show (0 : Int) ≤ (n : Int) by omega), if_pos (show (n : Int) < ((n + 1 : Nat) : Int) by omega), rd_nat]
  have k1 := parts_l0 (hasB t r) n (by omega) m (by omega) m 0 _ (by omega) (ones_P _ n)
  rw [show rows (hasB t r) n (0 + 1) = [((List.replicate (n + 1) (0 : Int)).set 0 1).getD n 0] from by rw [o]; rfl] at k1
  exact k1
theorem parts_no {s : ByteArray} {n m : Int} (hs : NoSmall s ∨ ∃ t r, IsSmall s t r) (h : NoSmall s ∨ ¬ (0 ≤ n ∧ n ≤ 40)) : Ev (fun k => impl_parts.f k s n m) ([], false) := by
  unfold impl_parts.f
  refine Ev.bind (steps_no hs h) ?_
  simp only [Bool.false_eq_true, if_false]
  exact Ev.now _

def sP (f : Nat → Bool) (k i q j : Nat) : Nat := S (fun y => if f y = true ∧ y ≤ j ∧ (j - y < i ∨ (j - y = i ∧ y < q)) then P f k (j - y) else 0) j
theorem sP_le (f : Nat → Bool) (k i q j : Nat) : sP f k i q j ≤ P f (k + 1) j := by
  unfold sP; simp only [P]
  refine S_le fun y a b => ?_
  by_cases c : f y = true
  · rw [if_pos c]; split
    · exact Nat.le_refl _
    · exact Nat.zero_le _
  · rw [if_neg (fun h => c h.1), if_neg c]; exact Nat.le_refl _
theorem sP_start (f : Nat → Bool) (k j : Nat) : sP f k 0 1 j = 0 := S_zero fun y a b => by rw [if_neg (by omega)]
theorem sP_end (f : Nat → Bool) (k n j q : Nat) (h : j ≤ n) : sP f k (n + 1) q j = P f (k + 1) j := by
  unfold sP; simp only [P]
  refine S_congr fun y a b => ?_
  by_cases c : f y = true
  · rw [if_pos c, if_pos ⟨c, b, .inl (by omega)⟩]
  · rw [if_neg (fun h => c h.1), if_neg c]
theorem sP_next (f : Nat → Bool) (k n i q j : Nat) (h : j ≤ n) (hq : n < i + q) : sP f k i q j = sP f k (i + 1) 1 j := by
  unfold sP
  refine S_congr fun y a b => ?_
  by_cases c : f y = true ∧ y ≤ j ∧ (j - y < i ∨ (j - y = i ∧ y < q))
  · rw [if_pos c, if_pos ⟨c.1, c.2.1, .inl (by omega)⟩]
  · rw [if_neg c, if_neg (fun h => c ⟨h.1, h.2.1, by omega⟩)]
theorem sP_other (f : Nat → Bool) (k i q j : Nat) (h : j ≠ i + q) : sP f k i (q + 1) j = sP f k i q j := by
  unfold sP
  refine S_congr fun y a b => ?_
  by_cases c : f y = true ∧ y ≤ j ∧ (j - y < i ∨ (j - y = i ∧ y < q))
  · rw [if_pos c, if_pos ⟨c.1, c.2.1, by omega⟩]
  · rw [if_neg c, if_neg (fun h => c ⟨h.1, h.2.1, by omega⟩)]
theorem sP_step (f : Nat → Bool) (k i q : Nat) (hq : 1 ≤ q) : sP f k i (q + 1) (i + q) = sP f k i q (i + q) + if f q = true then P f k i else 0 := by
  have h1 := S_one q (if f q = true then P f k i else 0) (i + q) hq
  rw [if_pos (c := q ≤ i + q) (by omega)] at h1
  unfold sP
  rw [← h1, ← S_add]
  refine S_congr fun y a b => ?_
  by_cases cy : y = q
  · subst cy
    rw [if_pos rfl, if_neg (c := f y = true ∧ y ≤ i + y ∧ (i + y - y < i ∨ (i + y - y = i ∧ y < y))) (by omega)]
    by_cases c : f y = true
    · rw [if_pos ⟨c, b, .inr ⟨by omega, by omega⟩⟩, if_pos c, Nat.zero_add, show i + y - y = i from by omega]
    · rw [if_neg (fun h => c h.1), if_neg c]
  · rw [if_neg cy, Nat.add_zero]
    by_cases c : f y = true ∧ y ≤ i + q ∧ (i + q - y < i ∨ (i + q - y = i ∧ y < q))
    · rw [if_pos c, if_pos ⟨c.1, c.2.1, by omega⟩]; rfl
    · rw [if_neg c, if_neg (fun h => c ⟨h.1, h.2.1, by omega⟩)]
theorem sparts_l2 {t r : List Bool} (h : Good t r) (n : Nat) (hn : n ≤ 60) (k : Nat) (hk : k ≤ 1000) (w T : List Int) (hw : TellsI w (fun j => ((P (hasB t r) k j : Nat) : Int)) (n + 1)) (p : Nat) (i : Nat) (hi : i ≤ n) (res : List Int)
    (hend : ∀ l : List Int, l.length = n + 1 → (∀ j, j ≤ n → l.getD j 0 = ((sP (hasB t r) k (i + 1) 1 j : Nat) : Int)) → Ev (fun k => spec_l9Parts.l1 k n w T p l ((i + 1 : Nat) : Int) t r) res) (d : Nat) :
    ∀ (q : Nat) (l : List Int), q + d = n + 1 - i → 1 ≤ q → l.length = n + 1 → (∀ j, j ≤ n → l.getD j 0 = ((sP (hasB t r) k i q j : Nat) : Int)) →
      Ev (fun k => spec_l9Parts.l2 k n w T p l (i : Nat) (q : Nat) t r) res := by
  have hwl := hw.len
  induction d with
  | zero =>
    intro q l hq h1 hl ha
    refine Ev.step (fun _ => ?_) (hend l hl fun j hj => by rw [ha j hj, sP_next _ k n i q j hj (by omega)])
    simp only [spec_l9Parts.l2]
    rw [wra (by omega), if_neg (by omega), wr1 (by omega)]
  | succ d ih =>
    intro q l hq h1 hl ha
    have hW := P_bound (hasB t r) k (n := i) (by omega)
    have hW2 := P_bound (hasB t r) (k + 1) (n := i + q) (by omega)
    have hp := sP_le (hasB t r) k i q (i + q)
    have hp2 := sP_le (hasB t r) k i (q + 1) (i + q)
    have e := sP_step (hasB t r) k i q h1
    have e1 : w.getD i 0 = ((P (hasB t r) k i : Nat) : Int) := hw.get _ (by omega)
    have e2 : l.getD (i + q) 0 = ((sP (hasB t r) k i q (i + q) : Nat) : Int) := ha _ (by omega)
    have k1 := ih (q + 1) (l.set (i + q) ((sP (hasB t r) k i (q + 1) (i + q) : Nat) : Int)) (by omega) (by omega) (by rw [List.length_set, hl]) (fun j hj => by
      by_cases cj : j = i + q
      · subst cj; rw [getI_set_self _ _ _ (by omega)]
      · rw [getI_set_ne _ _ (fun h => cj h.symm), ha j hj, sP_other _ _ _ _ _ cj])
    refine Ev.step (fun _ => ?_) k1
    simp only [spec_l9Parts.l2]
    rw [wra (by omega), if_pos (by omega), if_pos (by omega), if_pos (by omega), l1_has h q (by omega)]
    simp only [Option.bind_some, bit_eq]
    rw [if_pos (by omega), if_pos (by omega), rd_nat, rd_nat, e1, e2, wr1 (by omega), Int.toNat_natCast, e]
    by_cases c : hasB t r q = true
    · rw [if_pos c, if_pos c, Int.one_mul, wr (x := ((P (hasB t r) k i : Nat) : Int)) (by omega) (by omega), wra (by omega)]
    · rw [if_neg c, if_neg c, Int.zero_mul, wr (x := (0 : Int)) (by omega) (by omega), Int.add_zero, wr (by omega) (by omega)]; rfl
theorem sparts_l1 {t r : List Bool} (h : Good t r) (n : Nat) (hn : n ≤ 60) (k : Nat) (hk : k ≤ 1000) (w T : List Int) (hw : TellsI w (fun j => ((P (hasB t r) k j : Nat) : Int)) (n + 1)) (p : Nat) (hp : p ≤ 1000) (res : List Int)
    (hend : ∀ l : List Int, TellsI l (fun j => ((P (hasB t r) (k + 1) j : Nat) : Int)) (n + 1) → Ev (fun k => spec_l9Parts.l0 k n l T ((p + 1 : Nat) : Int) t r) res) (d : Nat) :
    ∀ (i : Nat) (l : List Int), i + d = n + 1 → l.length = n + 1 → (∀ j, j ≤ n → l.getD j 0 = ((sP (hasB t r) k i 1 j : Nat) : Int)) →
      Ev (fun k => spec_l9Parts.l1 k n w T p l (i : Nat) t r) res := by
  induction d with
  | zero =>
    intro i l hi hl ha
    obtain rfl : i = n + 1 := by omega
    refine Ev.step (fun k => ?_) (hend l ⟨hl, fun j hj => by rw [ha j (by omega), sP_end _ k n j 1 (by omega)]⟩)
    simp only [spec_l9Parts.l1]
    rw [if_neg (by omega), wr1 (by omega)]
  | succ d ih =>
    intro i l hi hl ha
    refine Ev.step (fun k => ?_) (sparts_l2 h n hn k hk w T hw p i (by omega) res (fun l hl ha => ih (i + 1) l (by omega) hl ha) (n - i) 1 l (by omega) (by omega) hl ha)
    simp only [spec_l9Parts.l1]
    rw [if_pos (by omega)]
    rfl
theorem sparts_l0 {t r : List Bool} (h : Good t r) (n : Nat) (hn : n ≤ 60) (d : Nat) : ∀ (k : Nat) (w : List Int), k + d = 41 → TellsI w (fun j => ((P (hasB t r) k j : Nat) : Int)) (n + 1) →
    Ev (fun q => spec_l9Parts.l0 q n w (rows (hasB t r) n k) (k : Nat) t r) (rows (hasB t r) n 41) := by
  induction d with
  | zero =>
    intro k w hk hw
    obtain rfl : k = 41 := by omega
    refine Ev.end fun q => ?_
    simp only [spec_l9Parts.l0]
    rw [if_neg (by omega)]
  | succ d ih =>
    intro k w hk hw
    have hwl := hw.len
    have e : wrap64 ((n : Int) + 1) = ((n + 1 : Nat) : Int) := wr1 (by omega)
    have hr := rows_len (hasB t r) n k
    refine Ev.step (fun q => ?_) (sparts_l1 h n hn k (by omega) w (rows (hasB t r) n (k + 1)) hw k (by omega) _ (fun l hl => ih (k + 1) l (by omega) hl) (n + 1) 0 (List.replicate (n + 1) 0) (by omega) (by simp) (fun j hj => by rw [getI_rep, sP_start]; rfl))
    simp only [spec_l9Parts.l0, e, Int.toNat_natCast]
    rw [if_pos (by omega), if_pos (by omega), if_pos (by omega), if_pos (by omega), if_pos (by omega), if_pos (by omega), rd_nat, hw.get n (by omega), ← rows_succ]
    rfl
theorem sparts_ev {t r : List Bool} (h : Good t r) (n : Nat) (hn : n ≤ 60) : Ev (fun q => spec_l9Parts.f q t r n) (rows (hasB t r) n 41) := by
  have e : wrap64 ((n : Int) + 1) = ((n + 1 : Nat) : Int) := wr1 (by omega)
  unfold spec_l9Parts.f
  simp only [e, if_pos (show (0 : Int) ≤ ((n + 1 : Nat) : Int) by omega), Int.toNat_natCast, if_pos (show n + 1 ≤ 35184372088832 by omega), Option.bind_some, List.length_replicate, if_pos (show (0 : Int) < ((n + 1 : Nat) : Int) by omega)]
  exact sparts_l0 h n hn 41 0 _ (by omega) (ones_P _ n)

theorem waysPart_impl {s : ByteArray} {t r : List Bool} (h : IsSmall s t r) (n m : Nat) (hn : n ≤ 40) (hm : m ≤ 40) : Ev (fun k => impl_WaysPart.f k s n m) (((P (hasB t r) m n : Nat) : Int), true) := by
  have hin : impl_in.f m 0 40 = some true := by rw [in_eq', decide_eq_true (by omega)]
  have hl := rows_len (hasB t r) n (m + 1)
  unfold impl_WaysPart.f
  simp only [hin, Option.bind_some, if_true]
  refine Ev.bind (parts_yes h n m hn hm) (Ev.const fun k => ?_)
  simp only [if_true]
  rw [if_pos (by omega), if_pos (by omega), rd_nat, rows_get _ _ (by omega)]
def odd (f : Nat → Bool) (n m : Nat) : Nat := Z (fun k => if k % 2 = 1 then P f k n else 0) m
theorem odd_succ (f : Nat → Bool) (n m : Nat) : odd f n (m + 1) = odd f n m + if m % 2 = 1 then P f m n else 0 := rfl
theorem Z_le_more (g : Nat → Nat) (m d : Nat) : Z g m ≤ Z g (m + d) := by
  induction d with
  | zero => exact Nat.le_refl _
  | succ d ih => rw [← Nat.add_assoc]; simp only [Z]; omega
theorem odd_le (f : Nat → Bool) (n m : Nat) : odd f n m ≤ W f n := by
  have h1 := P_sum f n (m + (n + 1)) (by omega)
  have h2 := Z_le_more (fun k => P f k n) m (n + 1)
  have h3 : odd f n m ≤ Z (fun k => P f k n) m := by
    clear h1 h2
    induction m with
    | zero => exact Nat.le_refl _
    | succ m ih => rw [odd_succ]; simp only [Z]; split <;> omega
  omega
theorem odd_l0 (f : Nat → Bool) (n m : Nat) (hn : n ≤ 60) (hm : m ≤ 1000) (b : Bool) (d : Nat) : ∀ k, k + d = m → Ev (fun q => impl_WaysOdd.l0 q b ((odd f n k : Nat) : Int) (rows f n m) (m : Nat) (k : Nat)) (((odd f n m : Nat) : Int), b) := by
  have hl := rows_len f n m
  induction d with
  | zero =>
    intro k hk
    obtain rfl : k = m := by omega
    refine Ev.end fun q => ?_
    simp only [impl_WaysOdd.l0]
    rw [if_neg (by omega)]
  | succ d ih =>
    intro k hk
    have hb := P_bound f k hn
    have ho := odd_le f n (k + 1)
    have hw := W_le_bound f hn
    have k1 := ih (k + 1) (by omega)
    rw [odd_succ] at k1 ho
    have et : Int.tmod (k : Int) 2 = ((k % 2 : Nat) : Int) := tmod_nat k 2
    refine Ev.step (fun q => ?_) k1
    simp only [impl_WaysOdd.l0]
    rw [if_pos (by omega), if_pos (by omega), if_pos (by omega), rd_nat, rows_get _ _ (by omega), et, wr1 (by omega)]
    rcases Nat.mod_two_eq_zero_or_one k with c | c
    · rw [c, if_neg (by omega), Int.natCast_zero, Int.zero_mul, wr (x := (0 : Int)) (by omega) (by omega), Int.add_zero, wr (by omega) (by omega)]; rfl
    · rw [if_pos c] at ho
      rw [c, if_pos rfl, show (((1 : Nat) : Int)) = 1 from rfl, Int.one_mul, wr (x := ((P f k n : Nat) : Int)) (by omega) (by omega), wra (by omega)]
theorem sodd_l0 (f : Nat → Bool) (n : Nat) (hn : n ≤ 60) (d : Nat) : ∀ k, k + 2 * d = 41 → Ev (fun q => spec_WaysOdd.l0 q (rows f n 41) ((odd f n k : Nat) : Int) (k : Nat)) (((odd f n 41 : Nat) : Int), true) := by
  have hl := rows_len f n 41
  induction d with
  | zero =>
    intro k hk
    obtain rfl : k = 41 := by omega
    refine Ev.end fun q => ?_
    simp only [spec_WaysOdd.l0]
    rw [if_neg (by omega)]
  | succ d ih =>
    intro k hk
    have hb := P_bound f k hn
    have ho := odd_le f n (k + 2)
    have hw := W_le_bound f hn
    have k1 := ih (k + 2) (by omega)
    rw [odd_succ, odd_succ, if_pos (show k % 2 = 1 by omega), if_neg (show ¬ (k + 1) % 2 = 1 by omega), Nat.add_zero] at k1 ho
    refine Ev.step (fun q => ?_) k1
    simp only [spec_WaysOdd.l0]
    rw [if_pos (by omega), if_pos (by omega), rd_nat, rows_get _ _ (by omega), wra (by omega), wr (x := (k : Int) + 2) (by omega) (by omega)]
    rfl
theorem waysOdd_impl {s : ByteArray} {t r : List Bool} (h : IsSmall s t r) (n : Nat) (hn : n ≤ 40) : Ev (fun k => impl_WaysOdd.f k s n) (((odd (hasB t r) n 41 : Nat) : Int), true) := by
  unfold impl_WaysOdd.f
  refine Ev.bind (parts_yes h n 40 hn (by omega)) ?_
  rw [rows_len]
  exact odd_l0 _ n 41 (by omega) (by omega) true 41 0 (by omega)
theorem waysOdd_spec {s : ByteArray} {t r : List Bool} (h : IsSmall s t r) (n : Nat) (hn : n ≤ 40) : Ev (fun k => spec_WaysOdd.f k s n) (((odd (hasB t r) n 41 : Nat) : Int), true) := by
  unfold spec_WaysOdd.f
  refine Ev.bind (given_yes h n 40 (by omega)) ?_
  simp only [if_true]
  refine Ev.bind (sparts_ev h.good n (by omega)) ?_
  exact sodd_l0 _ n (by omega) 20 1 (by omega)
theorem waysOdd_no {s : ByteArray} {n : Int} (hs : NoSmall s ∨ ∃ t r, IsSmall s t r) (h : NoSmall s ∨ ¬ (0 ≤ n ∧ n ≤ 40)) : Ev (fun k => impl_WaysOdd.f k s n) (0, false) ∧ Ev (fun k => spec_WaysOdd.f k s n) (0, false) := by
  constructor
  · unfold impl_WaysOdd.f
    refine Ev.bind (parts_no hs h) ?_
    exact Ev.end fun k => by simp only [impl_WaysOdd.l0]; rfl
  · obtain ⟨a, b, g⟩ := given_no hs h
    unfold spec_WaysOdd.f
    refine Ev.bind g ?_
    simp only [Bool.false_eq_true, if_false]
    exact Ev.now _

end Go.Proofs.Ytbepcaghlekbaaa.Q

namespace Go.Proofs.Ytbepcaghlekbaaa.Q
open Go.RowKit Go.Proofs.YtbepcaghlekbaaaW.PrintWords Go.Proofs.YtbepcaghlekbaaaW.PrintLast Go.Proofs.YtbepcaghlekbaaaW.PrintMore
attribute [local go_sem] max2_int min2_int max_two min_two max_three min_three max_four min_four   -- for this text's walks alone
set_option linter.unusedVariables false
set_option linter.unusedSimpArgs false

end Go.Proofs.Ytbepcaghlekbaaa.Q

namespace Go.Proofs.Ytbepcaghlekbaaa.Q
open Go.RowKit Go.Proofs.YtbepcaghlekbaaaW.PrintWords Go.Proofs.YtbepcaghlekbaaaW.PrintLast Go.Proofs.YtbepcaghlekbaaaW.PrintMore
attribute [local go_sem] max2_int min2_int max_two min_two max_three min_three max_four min_four   -- for this text's walks alone
set_option linter.unusedVariables false
set_option linter.unusedSimpArgs false

end Go.Proofs.Ytbepcaghlekbaaa.Q

namespace Go.Proofs.Ytbepcaghlekbaaa.Q
open Go.RowKit Go.Proofs.YtbepcaghlekbaaaW.PrintWords Go.Proofs.YtbepcaghlekbaaaW.PrintLast Go.Proofs.YtbepcaghlekbaaaW.PrintMore
attribute [local go_sem] max2_int min2_int max_two min_two max_three min_three max_four min_four   -- for this text's walks alone
set_option linter.unusedVariables false
set_option linter.unusedSimpArgs false

end Go.Proofs.Ytbepcaghlekbaaa.Q

namespace Go.Proofs.Ytbepcaghlekbaaa.Q
open Go.RowKit Go.Proofs.YtbepcaghlekbaaaW.PrintWords Go.Proofs.YtbepcaghlekbaaaW.PrintLast Go.Proofs.YtbepcaghlekbaaaW.PrintMore
attribute [local go_sem] max2_int min2_int max_two min_two max_three min_three max_four min_four   -- for this text's walks alone
set_option linter.unusedVariables false
set_option linter.unusedSimpArgs false

end Go.Proofs.Ytbepcaghlekbaaa.Q

namespace Go.Proofs.Ytbepcaghlekbaaa.Q
open Go.RowKit Go.Proofs.YtbepcaghlekbaaaW.PrintWords Go.Proofs.YtbepcaghlekbaaaW.PrintLast Go.Proofs.YtbepcaghlekbaaaW.PrintMore
attribute [local go_sem] max2_int min2_int max_two min_two max_three min_three max_four min_four   -- for this text's walks alone
set_option linter.unusedVariables false
set_option linter.unusedSimpArgs false

end Go.Proofs.Ytbepcaghlekbaaa.Q

namespace Go.Proofs.Ytbepcaghlekbaaa.Q
open Go.RowKit Go.Proofs.YtbepcaghlekbaaaW.PrintWords Go.Proofs.YtbepcaghlekbaaaW.PrintLast Go.Proofs.YtbepcaghlekbaaaW.PrintMore
attribute [local go_sem] max2_int min2_int max_two min_two max_three min_three max_four min_four   -- for this text's walks alone
set_option linter.unusedVariables false
set_option linter.unusedSimpArgs false

end Go.Proofs.Ytbepcaghlekbaaa.Q

namespace Go.Proofs.Ytbepcaghlekbaaa.Q
open Go.RowKit Go.Proofs.YtbepcaghlekbaaaW.PrintWords Go.Proofs.YtbepcaghlekbaaaW.PrintLast Go.Proofs.YtbepcaghlekbaaaW.PrintMore
attribute [local go_sem] max2_int min2_int max_two min_two max_three min_three max_four min_four   -- for this text's walks alone
set_option linter.unusedVariables false
set_option linter.unusedSimpArgs false

end Go.Proofs.Ytbepcaghlekbaaa.Q

namespace Go.Proofs.Ytbepcaghlekbaaa.Q
open Go.RowKit Go.Proofs.YtbepcaghlekbaaaW.PrintWords Go.Proofs.YtbepcaghlekbaaaW.PrintLast Go.Proofs.YtbepcaghlekbaaaW.PrintMore
attribute [local go_sem] max2_int min2_int max_two min_two max_three min_three max_four min_four   -- for this text's walks alone
set_option linter.unusedVariables false
set_option linter.unusedSimpArgs false

end Go.Proofs.Ytbepcaghlekbaaa.Q

namespace Go.Proofs.Ytbepcaghlekbaaa.Q
open Go.RowKit Go.Proofs.YtbepcaghlekbaaaW.PrintWords Go.Proofs.YtbepcaghlekbaaaW.PrintLast Go.Proofs.YtbepcaghlekbaaaW.PrintMore
attribute [local go_sem] max2_int min2_int max_two min_two max_three min_three max_four min_four   -- for this text's walks alone
set_option linter.unusedVariables false
set_option linter.unusedSimpArgs false

end Go.Proofs.Ytbepcaghlekbaaa.Q

namespace Go.Proofs.Ytbepcaghlekbaaa.Q
open Go.RowKit Go.Proofs.YtbepcaghlekbaaaW.PrintWords Go.Proofs.YtbepcaghlekbaaaW.PrintLast Go.Proofs.YtbepcaghlekbaaaW.PrintMore
attribute [local go_sem] max2_int min2_int max_two min_two max_three min_three max_four min_four   -- for this text's walks alone
set_option linter.unusedVariables false
set_option linter.unusedSimpArgs false

end Go.Proofs.Ytbepcaghlekbaaa.Q

namespace Go.Proofs.Ytbepcaghlekbaaa.Q
open Go.RowKit Go.Proofs.YtbepcaghlekbaaaW.PrintWords Go.Proofs.YtbepcaghlekbaaaW.PrintLast Go.Proofs.YtbepcaghlekbaaaW.PrintMore
attribute [local go_sem] max2_int min2_int max_two min_two max_three min_three max_four min_four   -- for this text's walks alone
set_option linter.unusedVariables false
set_option linter.unusedSimpArgs false

end Go.Proofs.Ytbepcaghlekbaaa.Q

namespace Go.Proofs.Ytbepcaghlekbaaa.Q
open Go.RowKit Go.Proofs.YtbepcaghlekbaaaW.PrintWords Go.Proofs.YtbepcaghlekbaaaW.PrintLast Go.Proofs.YtbepcaghlekbaaaW.PrintMore
attribute [local go_sem] max2_int min2_int max_two min_two max_three min_three max_four min_four   -- for this text's walks alone
set_option linter.unusedVariables false
set_option linter.unusedSimpArgs false

end Go.Proofs.Ytbepcaghlekbaaa.Q

namespace Go.Proofs.Ytbepcaghlekbaaa.Q
open Go.RowKit Go.Proofs.YtbepcaghlekbaaaW.PrintWords Go.Proofs.YtbepcaghlekbaaaW.PrintLast Go.Proofs.YtbepcaghlekbaaaW.PrintMore
attribute [local go_sem] max2_int min2_int max_two min_two max_three min_three max_four min_four   -- for this text's walks alone
set_option linter.unusedVariables false
set_option linter.unusedSimpArgs false

end Go.Proofs.Ytbepcaghlekbaaa.Q

namespace Go.Proofs.Ytbepcaghlekbaaa.Q
open Go.RowKit Go.Proofs.YtbepcaghlekbaaaW.PrintWords Go.Proofs.YtbepcaghlekbaaaW.PrintLast Go.Proofs.YtbepcaghlekbaaaW.PrintMore
open Go.Proofs.Ytbepcaghlekbaaa.Pl
set_option linter.unusedVariables false
set_option linter.unusedSimpArgs false
/-- A list that tells f up to its length. -/
structure Tells (l : List Bool) (f : Nat → Bool) (m : Nat) : Prop where
  len : l.length = m
  get : ∀ j, j < m → l.getD j false = f j
end Go.Proofs.Ytbepcaghlekbaaa.Q

namespace Go.Proofs.Ytbepcaghlekbaaa.Q
open Go.RowKit Go.Proofs.YtbepcaghlekbaaaW.PrintWords Go.Proofs.YtbepcaghlekbaaaW.PrintLast Go.Proofs.YtbepcaghlekbaaaW.PrintMore
set_option linter.unusedVariables false
set_option linter.unusedSimpArgs false
structure Bs (bs : List Int) : Prop where
  len : bs.length ≤ 2000
  byte : ∀ x ∈ bs, 0 ≤ x ∧ x ≤ 255
theorem byte_wf {x : Int} (h : (Lit.int .u8 x).wf = true) : 0 ≤ x ∧ x ≤ 255 := by
  have h1 : IntKind.u8.min = 0 := rfl
  have h2 : IntKind.u8.max = 255 := rfl
  simp [Lit.wf] at h
  omega
theorem open_ev (l0 : List Int) (h : ∀ x ∈ l0, (Lit.int .u8 x).wf = true) : ∃ bs, Bs bs ∧ spec_l6Open.f l0 = some (bs, 0) := by
  unfold spec_l6Open.f
  by_cases c : (l0.length : Int) > 2000
  · refine ⟨l0.take 2000, ⟨List.length_take_le _ _, fun x hx => byte_wf (h x (List.mem_of_mem_take hx))⟩, ?_⟩
    rw [if_pos c, if_pos (by omega)]
  · exact ⟨l0, ⟨by omega, fun x hx => byte_wf (h x hx)⟩, by rw [if_neg c]⟩
theorem rd_byte {bs : List Int} (h : Bs bs) (i : Nat) : ∃ b : Nat, b ≤ 255 ∧ rd bs (i : Int) = b := by
  have hx : 0 ≤ rd bs (i : Int) ∧ rd bs (i : Int) ≤ 255 := by
    unfold rd
    rw [Int.toNat_natCast]
    by_cases c : i < bs.length
    · have : bs.getD i 0 = bs[i] := by simp [List.getD, c]
      rw [this]
      exact h.byte _ (List.getElem_mem c)
    · have : bs.getD i 0 = 0 := by simp [List.getD, List.getElem?_eq_none (show bs.length ≤ i by omega)]
      rw [this]; omega
  obtain ⟨b, hb⟩ := Int.eq_ofNat_of_zero_le hx.1
  exact ⟨b, by omega, hb⟩
theorem xor_nat (a b : Nat) (ha : a < 2 ^ 62) (hb : b < 2 ^ 62) : Go.bits .xor .i64 (a : Int) (b : Int) = ((a ^^^ b : Nat) : Int) := by
  have h64 : IntKind.i64.bits = 64 := rfl
  have ha' : a % 2 ^ 64 = a := Nat.mod_eq_of_lt (by omega)
  have hb' : b % 2 ^ 64 = b := Nat.mod_eq_of_lt (by omega)
  have hx : a ^^^ b < 2 ^ 62 := Nat.xor_lt_two_pow ha hb
  simp only [Go.bits, h64, BitVec.ofInt_natCast, BitVec.toNat_xor, BitVec.toNat_ofNat, ha', hb']
  rw [IntKind.wrap_i64]
  omega
theorem pick_ev {bs : List Int} (h : Bs bs) (p n : Nat) (hp : p ≤ 1000000) (hn : 1 ≤ n) (hn2 : n ≤ 1000000) : ∃ v : Nat, v < n ∧ Ev (fun k => spec_l6Rd_pick.f k bs p n) ((v : Int), ((p + 1 : Nat) : Int)) := by
  have hl := h.len
  have e1 : wrap64 (((p + 1 : Nat) : Int) - 1) = (p : Nat) := by rw [wr (by omega) (by omega)]; omega
  have pos : ∀ v : Nat, Ev (fun k => spec_l6Rd_pick.j0 k n ((bs.length : Int) == 0) bs ((p + 1 : Nat) : Int)) ((v : Int), ((p + 1 : Nat) : Int)) → Ev (fun k => spec_l6Rd_pick.f k bs p n) ((v : Int), ((p + 1 : Nat) : Int)) := by
    intro v hv
    refine Ev.congr (fun k => ?_) hv
    unfold spec_l6Rd_pick.f
    rw [if_neg (by omega), wr1 (by omega)]
  by_cases c0 : bs.length = 0
  · refine ⟨0, by omega, pos 0 (Ev.end fun k => ?_)⟩
    simp only [spec_l6Rd_pick.j0]
    rw [if_pos (by rw [c0]; rfl)]
    rfl
  · have hne : ¬ (((bs.length : Int) == 0) = true) := by simp; intro h; exact c0 (by simp [h])
    by_cases c : p < bs.length
    · obtain ⟨b, hb, eb⟩ := rd_byte h p
      refine ⟨b % n, Nat.mod_lt _ (by omega), pos _ (Ev.end fun k => ?_)⟩
      simp only [spec_l6Rd_pick.j0]
      rw [if_neg hne, e1, if_pos (by omega), if_pos (by omega), if_neg (by omega), eb, wr (by omega) (by omega), tmod_nat]
    · have hm1 := Nat.mod_lt p (show bs.length > 0 by omega)
      have hm2 := Nat.mod_lt (p * 7 + 3) (show bs.length > 0 by omega)
      obtain ⟨b1, hb1, eb1⟩ := rd_byte h (p % bs.length)
      obtain ⟨b2, hb2, eb2⟩ := rd_byte h ((p * 7 + 3) % bs.length)
      have hd := Nat.div_le_self p bs.length
      have hx : b1 * 131 + b2 * 1117 + p * 29 + p / bs.length * 53 ≤ 100000000 := by omega
      refine ⟨((b1 * 131 + b2 * 1117 + p * 29 + p / bs.length * 53) ^^^ ((b1 * 131 + b2 * 1117 + p * 29 + p / bs.length * 53) / 64)) % n, Nat.mod_lt _ (by omega), pos _ (Ev.end fun k => ?_)⟩
      simp only [spec_l6Rd_pick.j0]
      have e7 : wrap64 (wrap64 (((p : Nat) : Int) * 7) + 3) = ((p * 7 + 3 : Nat) : Int) := by rw [wr (x := (p : Int) * 7) (by omega) (by omega), wr (by omega) (by omega)]; omega
      rw [if_neg hne, e1, if_neg (by omega), if_neg (by omega), e7, tmod_nat, tmod_nat, if_pos (by omega), if_pos (by omega), if_pos (by omega), if_pos (by omega), if_neg (by omega), eb1, eb2, tdiv_nat]
      have hX : wrap64 (wrap64 (wrap64 (wrap64 (wrap64 (b1 : Int) * 131) + wrap64 (wrap64 (b2 : Int) * 1117)) + wrap64 ((p : Int) * 29)) + wrap64 (wrap64 ((p / bs.length : Nat) : Int) * 53)) = ((b1 * 131 + b2 * 1117 + p * 29 + p / bs.length * 53 : Nat) : Int) := by
        generalize p / bs.length = q at *
        rw [wr (x := (b1 : Int)) (by omega) (by omega), wr (x := (b2 : Int)) (by omega) (by omega), wr (x := (b1 : Int) * 131) (by omega) (by omega), wr (x := (b2 : Int) * 1117) (by omega) (by omega), wr (x := (p : Int) * 29) (by omega) (by omega), wr (x := (q : Int)) (by omega) (by omega), wr (x := (q : Int) * 53) (by omega) (by omega), wr (x := (b1 : Int) * 131 + (b2 : Int) * 1117) (by omega) (by omega), wr (x := (b1 : Int) * 131 + (b2 : Int) * 1117 + (p : Int) * 29) (by omega) (by omega), wr (by omega) (by omega)]
        omega
      rw [hX]
      generalize b1 * 131 + b2 * 1117 + p * 29 + p / bs.length * 53 = X at hx
      have hq : wrap64 (Int.tdiv (X : Int) 64) = ((X / 64 : Nat) : Int) := by
        rw [show (64 : Int) = ((64 : Nat) : Int) from rfl, tdiv_nat, wr (by omega) (by omega)]
      rw [hq, xor_nat _ _ (by omega) (by omega), tmod_nat]

theorem signs_draw_l0 {bs : List Int} (h : Bs bs) (c : Nat) : ∀ (acc : List Int) (p : Nat), p + c ≤ 1000000 → acc.length + c ≤ 1000000 →
    ∃ s : ByteArray, s.size = acc.length + c ∧ Ev (fun k => spec_l91Signs.l0 k acc c bs p) (s, ((p + c : Nat) : Int)) := by
  induction c with
  | zero =>
    intro acc p hp ha
    refine ⟨strOfNums acc, strOfNums_size acc, Ev.end fun k => ?_⟩
    simp only [spec_l91Signs.l0]
    rw [if_neg (by omega)]; rfl
  | succ c ih =>
    intro acc p hp ha
    obtain ⟨v, hv, e⟩ := pick_ev h p 2 (by omega) (by omega) (by omega)
    obtain ⟨s, hs, es⟩ := ih (acc ++ [(wrap64 (48 + (v : Int))) % 256]) (p + 1) (by omega) (by rw [List.length_append, List.length_singleton]; omega)
    rw [List.length_append, List.length_singleton] at hs
    refine ⟨s, by omega, Ev.step (f := fun k => (spec_l6Rd_pick.f k bs p 2).bind fun x => if acc.length < 140737488355328 then spec_l91Signs.l0 k (acc ++ [(wrap64 (48 + x.1)) % 256]) (c : Nat) bs x.2 else none) (fun k => ?_) (Ev.bind e ?_)⟩
    · simp only [spec_l91Signs.l0]
      rw [if_pos (by omega), wr (x := ((c + 1 : Nat) : Int) - 1) (by omega) (by omega), show ((c + 1 : Nat) : Int) - 1 = (c : Int) from by omega]
    · simp only [if_pos (show acc.length < 140737488355328 from by omega)]
      rw [show p + (c + 1) = p + 1 + c from by omega]
      exact es
theorem signs_draw {bs : List Int} (h : Bs bs) (p low many : Nat) (hp : p ≤ 100000) (hl : low ≤ 1000) (hm : 1 ≤ many) (hm2 : many ≤ 1000) :
    ∃ (s : ByteArray) (q : Nat), s.size ≤ low + many ∧ q ≤ p + 1 + low + many ∧ Ev (fun k => spec_l91Signs.f k bs p low many) (s, (q : Int)) := by
  obtain ⟨v, hv, e⟩ := pick_ev h p many (by omega) hm (by omega)
  obtain ⟨s, hs, es⟩ := signs_draw_l0 h (low + v) [] (p + 1) (by omega) (by simp; omega)
  simp only [List.length_nil] at hs
  refine ⟨s, p + 1 + (low + v), by omega, by omega, ?_⟩
  unfold spec_l91Signs.f
  refine Ev.bind e ?_
  simp only [show wrap64 ((low : Int) + (v : Int)) = ((low + v : Nat) : Int) from by rw [wr (by omega) (by omega)]; omega]
  exact es

theorem set_draw {bs : List Int} (h : Bs bs) (p : Nat) (hp : p ≤ 50000) : ∃ (s : ByteArray) (q : Nat), s.size ≤ 100 ∧ q ≤ p + 100 ∧ Ev (fun k => spec_l91Set.f k bs p) (s, (q : Int)) := by
  obtain ⟨s1, p1, hs1, hp1, e1⟩ := signs_draw h p 0 6 (by omega) (by omega) (by omega) (by omega)
  obtain ⟨s2, p2, hs2, hp2, e2⟩ := signs_draw h p1 1 5 (by omega) (by omega) (by omega) (by omega)
  obtain ⟨v, hv, e3⟩ := pick_ev h p2 24 (by omega) (by omega) (by omega)
  have z1 : (⟨#[40]⟩ : ByteArray).size = 1 := rfl
  have z2 : (⟨#[41]⟩ : ByteArray).size = 1 := rfl
  have z3 : (⟨#[40, 48, 41]⟩ : ByteArray).size = 3 := rfl
  have key : ∃ (s : ByteArray) (q : Nat), s.size ≤ 100 ∧ q ≤ p + 100 ∧ Ev (fun k => if (v : Int) = 0 then ((some (([(⟨#[]⟩ : ByteArray), (⟨#[48]⟩ : ByteArray), (⟨#[40, 41]⟩ : ByteArray), (⟨#[49, 40]⟩ : ByteArray), (⟨#[40, 48, 41, 41]⟩ : ByteArray), (⟨#[97, 40, 49, 41]⟩ : ByteArray), (⟨#[40, 49, 41, 48]⟩ : ByteArray), (⟨#[48, 49, 40, 48, 50, 41]⟩ : ByteArray), (⟨#[48, 40, 40, 49, 41]⟩ : ByteArray)] : List ByteArray) : List ByteArray)).bind fun y => ((spec_l6Rd_pick.f k bs ((p2 + 1 : Nat) : Int) 9).bind fun x => (if 0 ≤ x.1 then (if x.1 < (y.length : Int) then (some (rdOf ByteArray.empty y x.1, x.2)) else (none)) else (none)))) else (if (v : Int) = 1 then ((spec_l91Signs.f k bs ((p2 + 1 : Nat) : Int) 0 6).bind fun x => (if x.1.size + 3 ≤ 9223372036854775807 then (some (x.1 ++ (⟨#[40, 48, 41]⟩ : ByteArray), x.2)) else (none))) else (if (v : Int) = 2 then (if 1 ≤ ((((s1 ++ (⟨#[40]⟩ : ByteArray)) ++ s2) ++ (⟨#[41]⟩ : ByteArray)).size : Int) then (if 1 + ((((s1 ++ (⟨#[40]⟩ : ByteArray)) ++ s2) ++ (⟨#[41]⟩ : ByteArray)).extract 1 (((s1 ++ (⟨#[40]⟩ : ByteArray)) ++ s2) ++ (⟨#[41]⟩ : ByteArray)).size).size ≤ 9223372036854775807 then (some ((⟨#[40]⟩ : ByteArray) ++ ((((s1 ++ (⟨#[40]⟩ : ByteArray)) ++ s2) ++ (⟨#[41]⟩ : ByteArray)).extract 1 (((s1 ++ (⟨#[40]⟩ : ByteArray)) ++ s2) ++ (⟨#[41]⟩ : ByteArray)).size), ((p2 + 1 : Nat) : Int))) else (none)) else (none)) else (some (((s1 ++ (⟨#[40]⟩ : ByteArray)) ++ s2) ++ (⟨#[41]⟩ : ByteArray), ((p2 + 1 : Nat) : Int)))))) (s, (q : Int)) := by
    by_cases c0 : v = 0
    · obtain ⟨u, hu, e4⟩ := pick_ev h (p2 + 1) 9 (by omega) (by omega) (by omega)
      refine ⟨rdOf ByteArray.empty [(⟨#[]⟩ : ByteArray), (⟨#[48]⟩ : ByteArray), (⟨#[40, 41]⟩ : ByteArray), (⟨#[49, 40]⟩ : ByteArray), (⟨#[40, 48, 41, 41]⟩ : ByteArray), (⟨#[97, 40, 49, 41]⟩ : ByteArray), (⟨#[40, 49, 41, 48]⟩ : ByteArray), (⟨#[48, 49, 40, 48, 50, 41]⟩ : ByteArray), (⟨#[48, 40, 40, 49, 41]⟩ : ByteArray)] (u : Int), p2 + 1 + 1, ?_, by omega, ?_⟩
      · have : u = 0 ∨ u = 1 ∨ u = 2 ∨ u = 3 ∨ u = 4 ∨ u = 5 ∨ u = 6 ∨ u = 7 ∨ u = 8 := by omega
        rcases this with rfl | rfl | rfl | rfl | rfl | rfl | rfl | rfl | rfl <;> decide
      · simp only [if_pos (show (v : Int) = 0 from by omega), Option.bind_some]
        refine Ev.bind e4 (Ev.const fun k => ?_)
        rw [if_pos (by omega), if_pos (by simp; omega)]
    · simp only [if_neg (show ¬ (v : Int) = 0 from by omega)]
      by_cases c1 : v = 1
      · obtain ⟨s4, p4, hs4, hp4, e4⟩ := signs_draw h (p2 + 1) 0 6 (by omega) (by omega) (by omega) (by omega)
        refine ⟨s4 ++ ⟨#[40, 48, 41]⟩, p4, by rw [ByteArray.size_append, z3]; omega, by omega, ?_⟩
        simp only [if_pos (show (v : Int) = 1 from by omega)]
        refine Ev.bind e4 (Ev.const fun k => ?_)
        rw [if_pos (by show s4.size + 3 ≤ 9223372036854775807; omega)]
      · simp only [if_neg (show ¬ (v : Int) = 1 from by omega)]
        have hsz : (((s1 ++ (⟨#[40]⟩ : ByteArray)) ++ s2) ++ (⟨#[41]⟩ : ByteArray)).size = s1.size + 1 + s2.size + 1 := by
          rw [ByteArray.size_append, ByteArray.size_append, ByteArray.size_append, z1, z2]
        by_cases c2 : v = 2
        · simp only [if_pos (show (v : Int) = 2 from by omega)]
          have hx : ((((s1 ++ (⟨#[40]⟩ : ByteArray)) ++ s2) ++ (⟨#[41]⟩ : ByteArray)).extract 1 (((s1 ++ (⟨#[40]⟩ : ByteArray)) ++ s2) ++ (⟨#[41]⟩ : ByteArray)).size).size = s1.size + 1 + s2.size := by
            rw [ext_size _ _ _ (Nat.le_refl _), hsz]; omega
          refine ⟨(⟨#[40]⟩ : ByteArray) ++ ((((s1 ++ (⟨#[40]⟩ : ByteArray)) ++ s2) ++ (⟨#[41]⟩ : ByteArray)).extract 1 (((s1 ++ (⟨#[40]⟩ : ByteArray)) ++ s2) ++ (⟨#[41]⟩ : ByteArray)).size), p2 + 1, ?_, by omega, Ev.const fun k => ?_⟩
          · rw [ByteArray.size_append, z1, hx]; omega
          · rw [if_pos (by omega), if_pos (by omega)]
        · simp only [if_neg (show ¬ (v : Int) = 2 from by omega)]
          exact ⟨_, p2 + 1, by rw [hsz]; omega, by omega, Ev.now _⟩
  obtain ⟨s, q, g1, g2, g3⟩ := key
  refine ⟨s, q, g1, g2, ?_⟩
  unfold spec_l91Set.f
  refine Ev.bind e1 ?_
  simp only [if_pos (show s1.size + 1 ≤ 9223372036854775807 from by omega)]
  refine Ev.bind e2 ?_
  have w1 : s1.size + 1 + s2.size ≤ 9223372036854775807 := by omega
  have w2 : s1.size + 1 + s2.size + 1 ≤ 9223372036854775807 := by omega
  simp only [if_pos w1, if_pos w2]
  exact Ev.bind e3 g3

end Go.Proofs.Ytbepcaghlekbaaa.Q

namespace Go.Proofs.Ytbepcaghlekbaaa.Q
open Go.RowKit Go.Proofs.YtbepcaghlekbaaaW.PrintWords Go.Proofs.YtbepcaghlekbaaaW.PrintLast Go.Proofs.YtbepcaghlekbaaaW.PrintMore
open Go.Proofs.Ytbepcaghlekbaaa.Pl
set_option linter.unusedVariables false
set_option linter.unusedSimpArgs false
theorem draw_seven {g : Nat → List Int → Option (ByteArray × Int)} (M : Nat) (L L1 : Int) (hM : 1 ≤ M) (hM2 : M ≤ 201) (hL : -1 ≤ L ∧ L ≤ 201) (hL1 : -1 ≤ L1 ∧ L1 ≤ 201)
    (hg : ∀ k l, g k l = (spec_l6Open.f l).bind fun x => (spec_l91Set.f k x.1 x.2).bind fun y => (spec_l6Rd_pick.f k x.1 y.2 12).bind fun a => (spec_l6Rd_pick.f k x.1 a.2 M).bind fun b => (spec_l6Rd_pick.f k x.1 b.2 20).bind fun c => (some ([a.1, b.1, L, L1, (-1), 0, c.1] : List Int)).bind fun w => (spec_l6Rd_pick.f k x.1 c.2 7).bind fun d => if 0 ≤ d.1 then (if d.1 < (w.length : Int) then some (y.1, rd w d.1) else none) else none)
    (l0 : List Int) (h : ∀ x ∈ l0, (Lit.int .u8 x).wf = true) : ∃ (s : ByteArray) (n : Int), s.size ≤ 1000 ∧ -1 ≤ n ∧ n ≤ 201 ∧ Ev (fun k => g k l0) (s, n) := by
  obtain ⟨bs, hb, eo⟩ := open_ev l0 h
  obtain ⟨s, q, g1, g2, g3⟩ := set_draw hb 0 (by omega)
  obtain ⟨a, ha, e1⟩ := pick_ev hb q 12 (by omega) (by omega) (by omega)
  obtain ⟨b, hb2, e2⟩ := pick_ev hb (q + 1) M (by omega) (by omega) (by omega)
  obtain ⟨c, hc, e3⟩ := pick_ev hb (q + 1 + 1) 20 (by omega) (by omega) (by omega)
  obtain ⟨d, hd, e4⟩ := pick_ev hb (q + 1 + 1 + 1) 7 (by omega) (by omega) (by omega)
  have hr : -1 ≤ rd ([(a : Int), (b : Int), L, L1, (-1), 0, (c : Int)] : List Int) (d : Int) ∧ rd ([(a : Int), (b : Int), L, L1, (-1), 0, (c : Int)] : List Int) (d : Int) ≤ 201 := by
    have : d = 0 ∨ d = 1 ∨ d = 2 ∨ d = 3 ∨ d = 4 ∨ d = 5 ∨ d = 6 := by omega
    rcases this with rfl | rfl | rfl | rfl | rfl | rfl | rfl <;> simp [rd] <;> omega
  refine ⟨s, rd ([(a : Int), (b : Int), L, L1, (-1), 0, (c : Int)] : List Int) (d : Int), by omega, hr.1, hr.2, Ev.congr (fun k => hg k l0) ?_⟩
  rw [eo]; simp only [Option.bind_some]
  refine Ev.bind g3 (Ev.bind e1 (Ev.bind e2 (Ev.bind e3 (Ev.bind e4 (Ev.const fun k => ?_)))))
  rw [if_pos (by omega), if_pos (by simp; omega)]
theorem drawWaysOdd_ev (l0 : List Int) (h : ∀ x ∈ l0, (Lit.int .u8 x).wf = true) : ∃ (s : ByteArray) (n : Int), s.size ≤ 1000 ∧ -1 ≤ n ∧ n ≤ 201 ∧ Ev (fun k => spec_DrawWaysOdd.f k l0) (s, n) := draw_seven 41 40 41 (by omega) (by omega) (by omega) (by omega) (fun k l => rfl) l0 h
end Go.Proofs.Ytbepcaghlekbaaa.Q

namespace Go.Proofs.Ytbepcaghlekbaaa.Pure
open Go.RowKit Go.Proofs.Ytbepcaghlekbaaa.Q Go.Proofs.YtbepcaghlekbaaaW.PrintWords Go.Proofs.YtbepcaghlekbaaaW.PrintLast
open Go.Proofs.Ytbepcaghlekbaaa.Pl
set_option linter.unusedSimpArgs false
set_option linter.unusedVariables false
theorem odd_sum {s : ByteArray} {t r : List Bool} (g : IsSmall s t r) (n : Nat) (hn : n ≤ 40) (d : Nat) : ∀ q, n + 1 ≤ q + 2 * d → q ≤ n + 2 → q % 2 = 1 → Ev (fun k => laws_FnWaysOdd.l0 k s n ((odd (hasB t r) n 41 : Nat) : Int) ((odd (hasB t r) n q : Nat) : Int) (q : Nat)) true := by
  have hW := W_le_bound (hasB t r) (n := n) (by omega)
  have fin : ∀ q, n < q → q ≤ 42 → odd (hasB t r) n q = odd (hasB t r) n 41 := by
    intro q h1 h2
    rcases Nat.lt_or_ge q 42 with c | c
    · exact (Z_more (m := q) (by omega) (fun y a b => by rw [P_far _ _ _ (by omega)]; split <;> rfl)).symm
    · exact Z_more (m := 41) (by omega) (fun y a b => by rw [P_far _ _ _ (by omega)]; split <;> rfl)
  have ende : ∀ q, n < q → q ≤ 42 → Ev (fun k => laws_FnWaysOdd.l0 k s n ((odd (hasB t r) n 41 : Nat) : Int) ((odd (hasB t r) n q : Nat) : Int) (q : Nat)) true := by
    intro q h1 h2
    have hle := odd_le (hasB t r) n 41
    rw [fin q h1 h2]
    refine Ev.step (f := fun k => (impl_WaysMany.f k s n).bind fun x => if x.2 = true then (if ((odd (hasB t r) n 41 : Nat) : Int) = ((odd (hasB t r) n 41 : Nat) : Int) then some (decide (((odd (hasB t r) n 41 : Nat) : Int) ≤ x.1)) else some false) else some false) (fun k => ?_) ?_
    · simp only [laws_FnWaysOdd.l0]
      rw [if_neg (by omega)]
    · refine Ev.bind (waysMany_impl g n hn) (Ev.eq (funext fun k => if_pos rfl) (Ev.const fun k => ?_))
      rw [if_pos rfl, decide_eq_true (by simp only []; omega)]
  induction d with
  | zero =>
    intro q h1 h2 h3
    exact ende q (by omega) (by omega)
  | succ d ih =>
    intro q h1 h2 h3
    by_cases c : n < q
    · exact ende q c (by omega)
    · have k1 := ih (q + 2) (by omega) (by omega) (by omega)
      have hp := odd_le (hasB t r) n (q + 2)
      have e2 : odd (hasB t r) n (q + 2) = odd (hasB t r) n q + P (hasB t r) q n := by
        have a1 := odd_succ (hasB t r) n (q + 1)
        have a2 := odd_succ (hasB t r) n q
        rw [if_neg (show ¬ (q + 1) % 2 = 1 by omega)] at a1
        rw [if_pos h3] at a2
        exact a1.trans a2
      rw [e2] at k1 hp
      refine Ev.step (f := fun k => (impl_WaysPart.f k s n (q : Nat)).bind fun x => laws_FnWaysOdd.l0 k s n ((odd (hasB t r) n 41 : Nat) : Int) (wrap64 (((odd (hasB t r) n q : Nat) : Int) + x.1)) (wrap64 ((q : Int) + 2))) (fun k => ?_) ?_
      · simp only [laws_FnWaysOdd.l0]
        rw [if_pos (by omega)]
      · refine Ev.bind (waysPart_impl g n q hn (by omega)) (Ev.eq (funext fun k => ?_) k1)
        simp only []
        rw [wra (by omega), wr (x := (q : Int) + 2) (by omega) (by omega)]
        rfl
theorem FnWaysOdd : laws_FnWaysOdd.Pure := by
  intro l0 h1 h2 h
  by_cases hz : (l0.length : Int) > 1048576
  · exact ⟨0, by unfold laws_FnWaysOdd.f; rw [if_pos hz]⟩
  obtain ⟨s, n, hs, n1, n2, hd⟩ := drawWaysOdd_ev l0 h
  refine Ev.rounds ?_
  unfold laws_FnWaysOdd.f
  refine Ev.eq (funext fun k => if_neg hz) (Ev.bind hd ?_)
  have cs := small_cases s (by omega)
  by_cases hx : NoSmall s ∨ ¬ (0 ≤ n ∧ n ≤ 40)
  · obtain ⟨e1, e2⟩ := waysOdd_no cs hx
    refine Ev.bind e1 (Ev.bind e2 (Ev.eq (funext fun k => if_pos rfl) ?_))
    refine Ev.step (f := fun k => laws_FnWaysOdd.j1 k s n 0 true true) (fun k => by simp only [laws_FnWaysOdd.j0, beq_self_eq_true, if_true, Bool.not_false]) (Ev.end fun k => by simp only [laws_FnWaysOdd.j1, if_true])
  · rcases cs with g | ⟨t, r, g⟩
    · exact absurd (Or.inl g) hx
    · have hn2 : 0 ≤ n ∧ n ≤ 40 := Decidable.byContradiction fun k => hx (Or.inr k)
      obtain ⟨m, rfl⟩ : ∃ m : Nat, n = (m : Int) := ⟨n.toNat, by omega⟩
      refine Ev.bind (waysOdd_impl g m (by omega)) (Ev.bind (waysOdd_spec g m (by omega)) (Ev.eq (funext fun k => if_pos rfl) ?_))
      refine Ev.step (f := fun k => laws_FnWaysOdd.j1 k s m ((odd (hasB t r) m 41 : Nat) : Int) true false) (fun k => by simp only [laws_FnWaysOdd.j0, beq_self_eq_true, if_true, Bool.not_true]) ?_
      exact Ev.step (fun k => by simp only [laws_FnWaysOdd.j1, Bool.false_eq_true, if_false]; rfl) (odd_sum g m (by omega) 21 1 (by omega) (by omega) (by omega))

end Go.Proofs.Ytbepcaghlekbaaa.Pure
