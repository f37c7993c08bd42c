/- The law FnStarPlus holds for all that it draws. -/
import Derived.Laws.BitsLemmas
import Derived.Test.YtpkpgdlbgcjloaaCFnStarPlus1
import Derived.Test.YtpkpgdlbgcjloaaCFnStarPlus8
import Derived.Test.YtpkpgdlbgcjloaaCFnStarPlus9
import Derived.Test.YtpkpgdlbgcjloaaCFnStarPlus10
import Derived.Test.YtpkpgdlbgcjloaaCFnStarPlus11
namespace Go.Proofs.Ytpkpgdlbgcjloaa.Q
open Go.RowKit Go.Proofs.YtpkpgdlbgcjloaaW.PrintWords Go.Proofs.YtpkpgdlbgcjloaaW.PrintLast Go.Proofs.YtpkpgdlbgcjloaaW.PrintMore
attribute [local go_sem] max2_int min2_int max_two min_two max_three min_three max_four min_four   -- for this text's walks alone
set_option linter.unusedVariables false
set_option linter.unusedSimpArgs false
mutual
def laws_FnStarPlus.j0 : Nat → ByteArray → ByteArray → Bool → Bool → Option (Bool)
 | 0, _, _, _, _ => none
 | k + 1, x3, x4, x5, x8 => if x8 = true then (laws_FnStarPlus.j1 k x3 x4 x8 (!x5)) else (laws_FnStarPlus.j1 k x3 x4 x8 true)
def laws_FnStarPlus.j1 : Nat → ByteArray → ByteArray → Bool → Bool → Option (Bool)
 | 0, _, _, _, _ => none
 | k + 1, x3, x4, x8, x43 => if x43 = true then (some x8) else ((impl_SetOf.f k (([0] : List Int))).bind fun bt859 => ((impl_MakeEither.f k x4 bt859.1).bind fun bt861 => ((impl_StarOf.f k x3).bind fun bt863 => (if bt861.2 = true then (if bt863.2 = true then (if bt861.1.toList = bt863.1.toList then ((impl_SetHas.f x4 0).bind fun t865 => ((impl_SetHas.f x3 0).bind fun t866 => (some (t865 == t866)))) else (some false)) else ((impl_SetHas.f x4 0).bind fun t867 => ((impl_SetHas.f x3 0).bind fun t868 => (some (t867 == t868))))) else ((impl_SetHas.f x4 0).bind fun t869 => ((impl_SetHas.f x3 0).bind fun t870 => (some (t869 == t870))))))))
end
def laws_FnStarPlus.f (k : Nat) (l0 : List Int) : Option (Bool) := if (l0.length : Int) > 1048576 then (some true) else ((spec_DrawStarPlus.f k l0).bind fun t851 => ((impl_StarPlus.f k t851).bind fun bt852 => ((spec_StarPlus.f k t851).bind fun bt854 => (if bt852.1.toList = bt854.1.toList then (laws_FnStarPlus.j0 k t851 bt852.1 bt852.2 (bt852.2 == bt854.2)) else (laws_FnStarPlus.j0 k t851 bt852.1 bt852.2 false)))))
theorem laws_FnStarPlus.mono_l : ∀ k, (∀ y0 y1 y2 y3, LeO (laws_FnStarPlus.j0 k y0 y1 y2 y3) (laws_FnStarPlus.j0 (k + 1) y0 y1 y2 y3)) ∧ (∀ y0 y1 y2 y3, LeO (laws_FnStarPlus.j1 k y0 y1 y2 y3) (laws_FnStarPlus.j1 (k + 1) y0 y1 y2 y3))
 | 0 => ⟨fun _ _ _ _ r h => by simp [laws_FnStarPlus.j0] at h, fun _ _ _ _ r h => by simp [laws_FnStarPlus.j1] at h⟩
 | k + 1 => by
  obtain ⟨ih0, ih1⟩ := laws_FnStarPlus.mono_l k
  refine ⟨?_, ?_⟩
  ·intro y0 y1 y2 y3
   unfold laws_FnStarPlus.j0
   repeat' first | (with_reducible exact ih1 _ _ _ _) | (with_reducible refine LeO.ite ?_ ?_)
  ·intro y0 y1 y2 y3
   unfold laws_FnStarPlus.j1
   repeat' first | (with_reducible exact impl_MakeEither.mono _ _ _) | (with_reducible exact impl_SetOf.mono _ _) | (with_reducible exact impl_StarOf.mono _ _) | (with_reducible exact LeO.refl _) | (with_reducible refine LeO.ite ?_ ?_) | (with_reducible refine LeO.bind ?_ (fun _ => ?_))
theorem laws_FnStarPlus.mono : ∀ a0 k, LeO (laws_FnStarPlus.f k a0) (laws_FnStarPlus.f (k + 1) a0) := by
 intro a0 k
 obtain ⟨ih0, ih1⟩ := laws_FnStarPlus.mono_l k
 unfold laws_FnStarPlus.f
 repeat' first | (with_reducible exact ih0 _ _ _ _) | (with_reducible exact impl_StarPlus.mono _ _) | (with_reducible exact spec_DrawStarPlus.mono _ _) | (with_reducible exact spec_StarPlus.mono _ _) | (with_reducible exact LeO.refl _) | (with_reducible refine LeO.ite ?_ ?_) | (with_reducible refine LeO.bind ?_ (fun _ => ?_))
set_option maxHeartbeats 8000000 in
set_option maxRecDepth 100000 in
theorem laws_FnStarPlus.calls (k : Nat) (A0 : Option Addr) (c0 : Nat) (l0 : List Int) (r : Bool) (w : World) (hr0 : Kd.C (Kd.int .u8) w A0 l0.length l0) (hc0 : l0.length ≤ c0) (h : laws_FnStarPlus.f k l0 = some r) :
  Calls Try.prog 7 #[.slice A0 l0.length c0] w fun e w' => e = .returned (.bool r) ∧ Below w.heap.size w w' := by
 have HR0 := Aside0.mk hr0
 have HC0 := Aside0.mk hc0
 clear hr0 hc0
 have HB := Aside0.mk (Below.refl w.heap.size w)
 have H : (if (l0.length : Int) > 1048576 then (some true) else ((spec_DrawStarPlus.f k l0).bind fun t851 => ((impl_StarPlus.f k t851).bind fun bt852 => ((spec_StarPlus.f k t851).bind fun bt854 => (if bt852.1.toList = bt854.1.toList then (laws_FnStarPlus.j0 k t851 bt852.1 bt852.2 (bt852.2 == bt854.2)) else (laws_FnStarPlus.j0 k t851 bt852.1 bt852.2 false)))))) = some r := h
 clear h
 by_cases c2 : (l0.length : Int) > 1048576
 ·rw [if_pos c2] at H
  have c2b0 : decide (1048576 < (l0.length : Int)) = true := decide_eq_true c2
  have c2b1 : decide (1048576 < l0.length) = true := decide_eq_true (by omega)
  clear c2
  obtain rfl := Option.some.inj H
  go_enter Try.func7, Try.ntmps7
  go_wp2
  go_ret
  exact ⟨by first | rfl | (simp [*, errW_none, errW_some] <;> rfl), HB.out⟩
 ·rw [if_neg c2] at H
  have c2b0 : decide (1048576 < (l0.length : Int)) = false := decide_eq_false c2
  have c2b1 : decide (1048576 < l0.length) = false := decide_eq_false (by omega)
  clear c2
  replace H := Option.bind_eq_some_iff.mp H
  obtain ⟨t851, A30, H⟩ := H
  replace H : ((impl_StarPlus.f k t851).bind fun bt852 => ((spec_StarPlus.f k t851).bind fun bt854 => (if bt852.1.toList = bt854.1.toList then (laws_FnStarPlus.j0 k t851 bt852.1 bt852.2 (bt852.2 == bt854.2)) else (laws_FnStarPlus.j0 k t851 bt852.1 bt852.2 false)))) = some r := H
  have A3 := Aside0.mk A30
  clear A30
  replace H := Option.bind_eq_some_iff.mp H
  obtain ⟨⟨t852, t853⟩, A40, H⟩ := H
  replace H : ((spec_StarPlus.f k t851).bind fun bt854 => (if t852.toList = bt854.1.toList then (laws_FnStarPlus.j0 k t851 t852 t853 (t853 == bt854.2)) else (laws_FnStarPlus.j0 k t851 t852 t853 false))) = some r := H
  have A4 := Aside0.mk A40
  clear A40
  replace H := Option.bind_eq_some_iff.mp H
  obtain ⟨⟨t854, t855⟩, A50, H⟩ := H
  replace H : (if t852.toList = t854.toList then (laws_FnStarPlus.j0 k t851 t852 t853 (t853 == t855)) else (laws_FnStarPlus.j0 k t851 t852 t853 false)) = some r := H
  have A5 := Aside0.mk A50
  clear A50
  have HC6 := Aside0.mk H
  clear H
  go_enter Try.func7, Try.ntmps7
  go_upto_region 6 with (first | ((with_reducible refine gate_callee (f := 28) rfl ?_); refine goesL_ (some 19) rfl rfl Try.func28 (by kernel_rfl) rfl #[.slice A0 l0.length c0] rfl (by (try simp only [List.map_toArray, List.map_cons, List.map_nil]); rfl) ?_; (with_reducible refine (spec_DrawStarPlus.calls k _ _ l0 t851 _ ?side1 ?side2 A3.out).mono ?_); (case side1 => repeat (exact HR0.out)); (case side2 => exact HC0.out); rintro e w7 ⟨rfl, hb⟩; refine ⟨_, rfl, ?_⟩; replace HB := Aside0.mk (below_step HB.out hb); (try clear hb)) | ((with_reducible refine gate_callee (f := 29) rfl ?_); refine goesL_ (some 22) rfl rfl Try.func29 (by kernel_rfl) rfl #[.string t851] rfl (by (try simp only [List.map_toArray, List.map_cons, List.map_nil]); rfl) ?_; (with_reducible refine (impl_StarPlus.calls k t851 t852 t853 _ A4.out).mono ?_); rintro e w8 ⟨rfl, hb⟩; refine ⟨_, rfl, ?_⟩; replace HB := Aside0.mk (below_step HB.out hb); (try clear hb)) | ((with_reducible refine gate_callee (f := 30) rfl ?_); refine goesL_ (some 27) rfl rfl Try.func30 (by kernel_rfl) rfl #[.string t851] rfl (by (try simp only [List.map_toArray, List.map_cons, List.map_nil]); rfl) ?_; (with_reducible refine (spec_StarPlus.calls k t851 t854 t855 _ A5.out).mono ?_); rintro e w9 ⟨rfl, hb⟩; refine ⟨_, rfl, ?_⟩; replace HB := Aside0.mk (below_step HB.out hb); (try clear hb)))
  go_cut [8] (fun v8 wc => ∃ (kq : Nat) (x8_5 : Bool), v8 = .bool x8_5 ∧ Aside0 (laws_FnStarPlus.j0 kq t851 t852 t853 x8_5 = some r) ∧ Aside0 (kq ≤ k) ∧ Aside0 (Below w.heap.size w wc))
  case first =>
   have H := HC6.out
   clear HC6
   by_cases c10 : t852.toList = t854.toList
   ·rw [if_pos c10] at H
    have c10b0 : (t852.toList == t854.toList) = true := beq_iff_eq.mpr c10
    have c10b1 : (t852.toList != t854.toList) = false := bne_eq_false_iff_eq.mpr c10
    clear c10
    have H' := Aside0.mk H
    clear H
    go_wp2
    go_meet
    case rel => exact ⟨_, ((t853 == t855)), (by rfl), H', ⟨by omega⟩, ⟨HB.out⟩⟩
   ·rw [if_neg c10] at H
    have c10b0 : (t852.toList == t854.toList) = false := beq_eq_false_iff_ne.mpr c10
    have c10b1 : (t852.toList != t854.toList) = true := bne_iff_ne.mpr c10
    have H' := Aside0.mk H
    clear H
    go_wp2
    go_meet
    case rel => exact ⟨_, (false), (by rfl), H', ⟨by omega⟩, ⟨HB.out⟩⟩
  case rest =>
   clear HC6
   try clear c2b0
   try clear c2b1
   obtain ⟨kq, x8_5, rfl, HA, HJ5, HB⟩ := hcut
   cases kq with
   | zero => exact absurd HA.out (by simp [laws_FnStarPlus.j0])
   | succ kj5 =>
    have H := HA.out
    clear HA
    simp only [laws_FnStarPlus.j0] at H
    have HC11 := Aside0.mk H
    clear H
    go_upto_region 7 with (fail)
    go_cut [43] (fun v43 wc => ∃ (kq : Nat) (x43_10 : Bool), v43 = .bool x43_10 ∧ Aside0 (laws_FnStarPlus.j1 kq t851 t852 x8_5 x43_10 = some r) ∧ Aside0 (kq ≤ kj5) ∧ Aside0 (Below w.heap.size w wc))
    case first =>
     have H := HC11.out
     clear HC11
     by_cases c12 : x8_5 = true
     ·subst c12
      replace H : (laws_FnStarPlus.j1 kj5 t851 t852 true (!t853)) = some r := by rw [if_pos rfl] at H; exact H
      have H' := Aside0.mk H
      clear H
      go_wp2
      go_meet
      case rel => exact ⟨_, (!t853), (by rfl), H', ⟨by have := HJ5.out; omega⟩, ⟨HB.out⟩⟩
     ·replace c12 := Bool.eq_false_iff.mpr c12
      subst c12
      replace H : (laws_FnStarPlus.j1 kj5 t851 t852 false true) = some r := by rw [if_neg (show ¬ (false = true) by decide)] at H; exact H
      have H' := Aside0.mk H
      clear H
      go_wp2
      go_meet
      case rel => exact ⟨_, (true), (by rfl), H', ⟨by have := HJ5.out; omega⟩, ⟨HB.out⟩⟩
    case rest =>
     clear HC11
     obtain ⟨kq, x43_10, rfl, HA, HJ10, HB⟩ := hcut
     cases kq with
     | zero => exact absurd HA.out (by simp [laws_FnStarPlus.j1])
     | succ kj10 =>
      have H := HA.out
      clear HA
      simp only [laws_FnStarPlus.j1] at H
      by_cases c13 : x43_10 = true
      ·subst c13
       replace H : (some x8_5) = some r := by rw [if_pos rfl] at H; exact H
       obtain rfl := Option.some.inj H
       go_wp2
       go_ret
       exact ⟨by first | rfl | (simp [*, errW_none, errW_some] <;> rfl), HB.out⟩
      ·replace c13 := Bool.eq_false_iff.mpr c13
       subst c13
       replace H : ((impl_SetOf.f kj10 (([0] : List Int))).bind fun bt859 => ((impl_MakeEither.f kj10 t852 bt859.1).bind fun bt861 => ((impl_StarOf.f kj10 t851).bind fun bt863 => (if bt861.2 = true then (if bt863.2 = true then (if bt861.1.toList = bt863.1.toList then ((impl_SetHas.f t852 0).bind fun t865 => ((impl_SetHas.f t851 0).bind fun t866 => (some (t865 == t866)))) else (some false)) else ((impl_SetHas.f t852 0).bind fun t867 => ((impl_SetHas.f t851 0).bind fun t868 => (some (t867 == t868))))) else ((impl_SetHas.f t852 0).bind fun t869 => ((impl_SetHas.f t851 0).bind fun t870 => (some (t869 == t870)))))))) = some r := by rw [if_neg (show ¬ (false = true) by decide)] at H; exact H
       obtain ⟨y856, hy856⟩ : ∃ y_ : List Int, y_ = (([0] : List Int)) := ⟨_, rfl⟩
       replace H : ((impl_SetOf.f kj10 y856).bind fun bt859 => ((impl_MakeEither.f kj10 t852 bt859.1).bind fun bt861 => ((impl_StarOf.f kj10 t851).bind fun bt863 => (if bt861.2 = true then (if bt863.2 = true then (if bt861.1.toList = bt863.1.toList then ((impl_SetHas.f t852 0).bind fun t865 => ((impl_SetHas.f t851 0).bind fun t866 => (some (t865 == t866)))) else (some false)) else ((impl_SetHas.f t852 0).bind fun t867 => ((impl_SetHas.f t851 0).bind fun t868 => (some (t867 == t868))))) else ((impl_SetHas.f t852 0).bind fun t869 => ((impl_SetHas.f t851 0).bind fun t870 => (some (t869 == t870)))))))) = some r := by first | (rw [hy856]; with_reducible exact H)
       have Ny856 := Aside0.mk hy856
       clear hy856
       replace H := Option.bind_eq_some_iff.mp H
       obtain ⟨⟨t859, t860⟩, A140, H⟩ := H
       replace H : ((impl_MakeEither.f kj10 t852 t859).bind fun bt861 => ((impl_StarOf.f kj10 t851).bind fun bt863 => (if bt861.2 = true then (if bt863.2 = true then (if bt861.1.toList = bt863.1.toList then ((impl_SetHas.f t852 0).bind fun t865 => ((impl_SetHas.f t851 0).bind fun t866 => (some (t865 == t866)))) else (some false)) else ((impl_SetHas.f t852 0).bind fun t867 => ((impl_SetHas.f t851 0).bind fun t868 => (some (t867 == t868))))) else ((impl_SetHas.f t852 0).bind fun t869 => ((impl_SetHas.f t851 0).bind fun t870 => (some (t869 == t870))))))) = some r := H
       have A14 := Aside0.mk A140
       clear A140
       replace H := Option.bind_eq_some_iff.mp H
       obtain ⟨⟨t861, t862⟩, A150, H⟩ := H
       replace H : ((impl_StarOf.f kj10 t851).bind fun bt863 => (if t862 = true then (if bt863.2 = true then (if t861.toList = bt863.1.toList then ((impl_SetHas.f t852 0).bind fun t865 => ((impl_SetHas.f t851 0).bind fun t866 => (some (t865 == t866)))) else (some false)) else ((impl_SetHas.f t852 0).bind fun t867 => ((impl_SetHas.f t851 0).bind fun t868 => (some (t867 == t868))))) else ((impl_SetHas.f t852 0).bind fun t869 => ((impl_SetHas.f t851 0).bind fun t870 => (some (t869 == t870)))))) = some r := H
       have A15 := Aside0.mk A150
       clear A150
       replace H := Option.bind_eq_some_iff.mp H
       obtain ⟨⟨t863, t864⟩, A160, H⟩ := H
       replace H : (if t862 = true then (if t864 = true then (if t861.toList = t863.toList then ((impl_SetHas.f t852 0).bind fun t865 => ((impl_SetHas.f t851 0).bind fun t866 => (some (t865 == t866)))) else (some false)) else ((impl_SetHas.f t852 0).bind fun t867 => ((impl_SetHas.f t851 0).bind fun t868 => (some (t867 == t868))))) else ((impl_SetHas.f t852 0).bind fun t869 => ((impl_SetHas.f t851 0).bind fun t870 => (some (t869 == t870))))) = some r := H
       have A16 := Aside0.mk A160
       clear A160
       by_cases c17 : t862 = true
       ·subst c17
        replace H : (if t864 = true then (if t861.toList = t863.toList then ((impl_SetHas.f t852 0).bind fun t865 => ((impl_SetHas.f t851 0).bind fun t866 => (some (t865 == t866)))) else (some false)) else ((impl_SetHas.f t852 0).bind fun t867 => ((impl_SetHas.f t851 0).bind fun t868 => (some (t867 == t868))))) = some r := by rw [if_pos rfl] at H; exact H
        by_cases c18 : t864 = true
        ·subst c18
         replace H : (if t861.toList = t863.toList then ((impl_SetHas.f t852 0).bind fun t865 => ((impl_SetHas.f t851 0).bind fun t866 => (some (t865 == t866)))) else (some false)) = some r := by rw [if_pos rfl] at H; exact H
         by_cases c19 : t861.toList = t863.toList
         ·rw [if_pos c19] at H
          have c19b0 : (t861.toList == t863.toList) = true := beq_iff_eq.mpr c19
          have c19b1 : (t861.toList != t863.toList) = false := bne_eq_false_iff_eq.mpr c19
          clear c19
          replace H := Option.bind_eq_some_iff.mp H
          obtain ⟨t865, A200, H⟩ := H
          replace H : ((impl_SetHas.f t851 0).bind fun t866 => (some (t865 == t866))) = some r := H
          have A20 := Aside0.mk A200
          clear A200
          replace H := Option.bind_eq_some_iff.mp H
          obtain ⟨t866, A210, H⟩ := H
          replace H : (some (t865 == t866)) = some r := H
          have A21 := Aside0.mk A210
          clear A210
          obtain rfl := Option.some.inj H
          go_wp2_with (first | ((with_reducible refine gate_dst (N := 46) rfl ?_); refine Kd.R_lit (Kd.int .i64) _ 3 ?hg (N := 46) ?hd (xs := ([0] : List Int)) (inner := [.int .i64 0]) (ok := fun _ => True) (okp := fun _ => True) ?hr ?hp (fun _ hk => hk) trivial (Below.refl _ _) (Nat.le_refl _) (by simp) ?_; (case hd => rfl); (case hg => rfl); (case hr => first | (go_simp; done)); (case hp => exact (Reps.one (show Kd.M (Kd.int .i64) _ _ _ 0 [.int .i64 0] from rfl) (Reps.none _ _))); intro v857 w22 ho23 hb hg_ hnew_; clear hg_ hnew_; (rw [← Ny856.out] at ho23); have HO858 := Aside0.mk (Kd.R_lower ho23 (below_size HB.out)); replace HB := Aside0.mk (below_step HB.out hb); clear hb ho23; obtain ⟨Ao24, co24, eo24⟩ := Kd.R_slice HO858.out; subst eo24) | ((with_reducible refine gate_callee (f := 31) rfl ?_); refine goesL_ (some 47) rfl rfl Try.func31 (by kernel_rfl) rfl #[.slice Ao24 y856.length co24] rfl (by (try simp only [List.map_toArray, List.map_cons, List.map_nil]); rfl) ?_; (with_reducible refine (impl_SetOf.calls kj10 _ _ y856 t859 t860 _ ?side1 ?side2 A14.out).mono ?_); (case side1 => repeat (exact (Kd.R_reads' HO858.out).2.2)); (case side2 => exact (Kd.R_reads' HO858.out).2.1); rintro e w25 ⟨rfl, hb⟩; refine ⟨_, rfl, ?_⟩; replace HO858 := Aside0.mk (Kd.R_below HO858.out hb); replace HB := Aside0.mk (below_step HB.out hb); (try clear hb)) | ((with_reducible refine gate_callee (f := 32) rfl ?_); refine goesL_ (some 53) rfl rfl Try.func32 (by kernel_rfl) rfl #[.string t852, .string t859] rfl (by (try simp only [List.map_toArray, List.map_cons, List.map_nil]); rfl) ?_; (with_reducible refine (impl_MakeEither.calls kj10 t852 t859 t861 true _ A15.out).mono ?_); rintro e w26 ⟨rfl, hb⟩; refine ⟨_, rfl, ?_⟩; replace HO858 := Aside0.mk (Kd.R_below HO858.out hb); replace HB := Aside0.mk (below_step HB.out hb); (try clear hb)) | ((with_reducible refine gate_callee (f := 33) rfl ?_); refine goesL_ (some 58) rfl rfl Try.func33 (by kernel_rfl) rfl #[.string t851] rfl (by (try simp only [List.map_toArray, List.map_cons, List.map_nil]); rfl) ?_; (with_reducible refine (impl_StarOf.calls kj10 t851 t863 true _ A16.out).mono ?_); rintro e w27 ⟨rfl, hb⟩; refine ⟨_, rfl, ?_⟩; replace HO858 := Aside0.mk (Kd.R_below HO858.out hb); replace HB := Aside0.mk (below_step HB.out hb); (try clear hb)) | (go_at_call 17; (with_reducible refine (impl_SetHas.calls t852 0 t865 _ A20.out).mono ?_); rintro e w28 ⟨rfl, hb⟩; replace HO858 := Aside0.mk (Kd.R_below HO858.out hb); replace HB := Aside0.mk (below_step HB.out hb); (try clear hb)) | (go_at_call 17; (with_reducible refine (impl_SetHas.calls t851 0 t866 _ A21.out).mono ?_); rintro e w29 ⟨rfl, hb⟩; replace HO858 := Aside0.mk (Kd.R_below HO858.out hb); replace HB := Aside0.mk (below_step HB.out hb); (try clear hb)))
          go_ret
          exact ⟨by first | rfl | (simp [*, errW_none, errW_some] <;> rfl), HB.out⟩
         ·rw [if_neg c19] at H
          have c19b0 : (t861.toList == t863.toList) = false := beq_eq_false_iff_ne.mpr c19
          have c19b1 : (t861.toList != t863.toList) = true := bne_iff_ne.mpr c19
          obtain rfl := Option.some.inj H
          go_wp2_with (first | ((with_reducible refine gate_dst (N := 46) rfl ?_); refine Kd.R_lit (Kd.int .i64) _ 3 ?hg (N := 46) ?hd (xs := ([0] : List Int)) (inner := [.int .i64 0]) (ok := fun _ => True) (okp := fun _ => True) ?hr ?hp (fun _ hk => hk) trivial (Below.refl _ _) (Nat.le_refl _) (by simp) ?_; (case hd => rfl); (case hg => rfl); (case hr => first | (go_simp; done)); (case hp => exact (Reps.one (show Kd.M (Kd.int .i64) _ _ _ 0 [.int .i64 0] from rfl) (Reps.none _ _))); intro v857 w30 ho31 hb hg_ hnew_; clear hg_ hnew_; (rw [← Ny856.out] at ho31); have HO858 := Aside0.mk (Kd.R_lower ho31 (below_size HB.out)); replace HB := Aside0.mk (below_step HB.out hb); clear hb ho31; obtain ⟨Ao32, co32, eo32⟩ := Kd.R_slice HO858.out; subst eo32) | ((with_reducible refine gate_callee (f := 31) rfl ?_); refine goesL_ (some 47) rfl rfl Try.func31 (by kernel_rfl) rfl #[.slice Ao32 y856.length co32] rfl (by (try simp only [List.map_toArray, List.map_cons, List.map_nil]); rfl) ?_; (with_reducible refine (impl_SetOf.calls kj10 _ _ y856 t859 t860 _ ?side1 ?side2 A14.out).mono ?_); (case side1 => repeat (exact (Kd.R_reads' HO858.out).2.2)); (case side2 => exact (Kd.R_reads' HO858.out).2.1); rintro e w33 ⟨rfl, hb⟩; refine ⟨_, rfl, ?_⟩; replace HO858 := Aside0.mk (Kd.R_below HO858.out hb); replace HB := Aside0.mk (below_step HB.out hb); (try clear hb)) | ((with_reducible refine gate_callee (f := 32) rfl ?_); refine goesL_ (some 53) rfl rfl Try.func32 (by kernel_rfl) rfl #[.string t852, .string t859] rfl (by (try simp only [List.map_toArray, List.map_cons, List.map_nil]); rfl) ?_; (with_reducible refine (impl_MakeEither.calls kj10 t852 t859 t861 true _ A15.out).mono ?_); rintro e w34 ⟨rfl, hb⟩; refine ⟨_, rfl, ?_⟩; replace HO858 := Aside0.mk (Kd.R_below HO858.out hb); replace HB := Aside0.mk (below_step HB.out hb); (try clear hb)) | ((with_reducible refine gate_callee (f := 33) rfl ?_); refine goesL_ (some 58) rfl rfl Try.func33 (by kernel_rfl) rfl #[.string t851] rfl (by (try simp only [List.map_toArray, List.map_cons, List.map_nil]); rfl) ?_; (with_reducible refine (impl_StarOf.calls kj10 t851 t863 true _ A16.out).mono ?_); rintro e w35 ⟨rfl, hb⟩; refine ⟨_, rfl, ?_⟩; replace HO858 := Aside0.mk (Kd.R_below HO858.out hb); replace HB := Aside0.mk (below_step HB.out hb); (try clear hb)))
          go_ret
          exact ⟨by first | rfl | (simp [*, errW_none, errW_some] <;> rfl), HB.out⟩
        ·replace c18 := Bool.eq_false_iff.mpr c18
         subst c18
         replace H : ((impl_SetHas.f t852 0).bind fun t867 => ((impl_SetHas.f t851 0).bind fun t868 => (some (t867 == t868)))) = some r := by rw [if_neg (show ¬ (false = true) by decide)] at H; exact H
         replace H := Option.bind_eq_some_iff.mp H
         obtain ⟨t867, A360, H⟩ := H
         replace H : ((impl_SetHas.f t851 0).bind fun t868 => (some (t867 == t868))) = some r := H
         have A36 := Aside0.mk A360
         clear A360
         replace H := Option.bind_eq_some_iff.mp H
         obtain ⟨t868, A370, H⟩ := H
         replace H : (some (t867 == t868)) = some r := H
         have A37 := Aside0.mk A370
         clear A370
         obtain rfl := Option.some.inj H
         go_wp2_with (first | ((with_reducible refine gate_dst (N := 46) rfl ?_); refine Kd.R_lit (Kd.int .i64) _ 3 ?hg (N := 46) ?hd (xs := ([0] : List Int)) (inner := [.int .i64 0]) (ok := fun _ => True) (okp := fun _ => True) ?hr ?hp (fun _ hk => hk) trivial (Below.refl _ _) (Nat.le_refl _) (by simp) ?_; (case hd => rfl); (case hg => rfl); (case hr => first | (go_simp; done)); (case hp => exact (Reps.one (show Kd.M (Kd.int .i64) _ _ _ 0 [.int .i64 0] from rfl) (Reps.none _ _))); intro v857 w38 ho39 hb hg_ hnew_; clear hg_ hnew_; (rw [← Ny856.out] at ho39); have HO858 := Aside0.mk (Kd.R_lower ho39 (below_size HB.out)); replace HB := Aside0.mk (below_step HB.out hb); clear hb ho39; obtain ⟨Ao40, co40, eo40⟩ := Kd.R_slice HO858.out; subst eo40) | ((with_reducible refine gate_callee (f := 31) rfl ?_); refine goesL_ (some 47) rfl rfl Try.func31 (by kernel_rfl) rfl #[.slice Ao40 y856.length co40] rfl (by (try simp only [List.map_toArray, List.map_cons, List.map_nil]); rfl) ?_; (with_reducible refine (impl_SetOf.calls kj10 _ _ y856 t859 t860 _ ?side1 ?side2 A14.out).mono ?_); (case side1 => repeat (exact (Kd.R_reads' HO858.out).2.2)); (case side2 => exact (Kd.R_reads' HO858.out).2.1); rintro e w41 ⟨rfl, hb⟩; refine ⟨_, rfl, ?_⟩; replace HO858 := Aside0.mk (Kd.R_below HO858.out hb); replace HB := Aside0.mk (below_step HB.out hb); (try clear hb)) | ((with_reducible refine gate_callee (f := 32) rfl ?_); refine goesL_ (some 53) rfl rfl Try.func32 (by kernel_rfl) rfl #[.string t852, .string t859] rfl (by (try simp only [List.map_toArray, List.map_cons, List.map_nil]); rfl) ?_; (with_reducible refine (impl_MakeEither.calls kj10 t852 t859 t861 true _ A15.out).mono ?_); rintro e w42 ⟨rfl, hb⟩; refine ⟨_, rfl, ?_⟩; replace HO858 := Aside0.mk (Kd.R_below HO858.out hb); replace HB := Aside0.mk (below_step HB.out hb); (try clear hb)) | ((with_reducible refine gate_callee (f := 33) rfl ?_); refine goesL_ (some 58) rfl rfl Try.func33 (by kernel_rfl) rfl #[.string t851] rfl (by (try simp only [List.map_toArray, List.map_cons, List.map_nil]); rfl) ?_; (with_reducible refine (impl_StarOf.calls kj10 t851 t863 false _ A16.out).mono ?_); rintro e w43 ⟨rfl, hb⟩; refine ⟨_, rfl, ?_⟩; replace HO858 := Aside0.mk (Kd.R_below HO858.out hb); replace HB := Aside0.mk (below_step HB.out hb); (try clear hb)) | (go_at_call 17; (with_reducible refine (impl_SetHas.calls t852 0 t867 _ A36.out).mono ?_); rintro e w44 ⟨rfl, hb⟩; replace HO858 := Aside0.mk (Kd.R_below HO858.out hb); replace HB := Aside0.mk (below_step HB.out hb); (try clear hb)) | (go_at_call 17; (with_reducible refine (impl_SetHas.calls t851 0 t868 _ A37.out).mono ?_); rintro e w45 ⟨rfl, hb⟩; replace HO858 := Aside0.mk (Kd.R_below HO858.out hb); replace HB := Aside0.mk (below_step HB.out hb); (try clear hb)))
         go_ret
         exact ⟨by first | rfl | (simp [*, errW_none, errW_some] <;> rfl), HB.out⟩
       ·replace c17 := Bool.eq_false_iff.mpr c17
        subst c17
        replace H : ((impl_SetHas.f t852 0).bind fun t869 => ((impl_SetHas.f t851 0).bind fun t870 => (some (t869 == t870)))) = some r := by rw [if_neg (show ¬ (false = true) by decide)] at H; exact H
        replace H := Option.bind_eq_some_iff.mp H
        obtain ⟨t869, A460, H⟩ := H
        replace H : ((impl_SetHas.f t851 0).bind fun t870 => (some (t869 == t870))) = some r := H
        have A46 := Aside0.mk A460
        clear A460
        replace H := Option.bind_eq_some_iff.mp H
        obtain ⟨t870, A470, H⟩ := H
        replace H : (some (t869 == t870)) = some r := H
        have A47 := Aside0.mk A470
        clear A470
        obtain rfl := Option.some.inj H
        go_wp2_with (first | ((with_reducible refine gate_dst (N := 46) rfl ?_); refine Kd.R_lit (Kd.int .i64) _ 3 ?hg (N := 46) ?hd (xs := ([0] : List Int)) (inner := [.int .i64 0]) (ok := fun _ => True) (okp := fun _ => True) ?hr ?hp (fun _ hk => hk) trivial (Below.refl _ _) (Nat.le_refl _) (by simp) ?_; (case hd => rfl); (case hg => rfl); (case hr => first | (go_simp; done)); (case hp => exact (Reps.one (show Kd.M (Kd.int .i64) _ _ _ 0 [.int .i64 0] from rfl) (Reps.none _ _))); intro v857 w48 ho49 hb hg_ hnew_; clear hg_ hnew_; (rw [← Ny856.out] at ho49); have HO858 := Aside0.mk (Kd.R_lower ho49 (below_size HB.out)); replace HB := Aside0.mk (below_step HB.out hb); clear hb ho49; obtain ⟨Ao50, co50, eo50⟩ := Kd.R_slice HO858.out; subst eo50) | ((with_reducible refine gate_callee (f := 31) rfl ?_); refine goesL_ (some 47) rfl rfl Try.func31 (by kernel_rfl) rfl #[.slice Ao50 y856.length co50] rfl (by (try simp only [List.map_toArray, List.map_cons, List.map_nil]); rfl) ?_; (with_reducible refine (impl_SetOf.calls kj10 _ _ y856 t859 t860 _ ?side1 ?side2 A14.out).mono ?_); (case side1 => repeat (exact (Kd.R_reads' HO858.out).2.2)); (case side2 => exact (Kd.R_reads' HO858.out).2.1); rintro e w51 ⟨rfl, hb⟩; refine ⟨_, rfl, ?_⟩; replace HO858 := Aside0.mk (Kd.R_below HO858.out hb); replace HB := Aside0.mk (below_step HB.out hb); (try clear hb)) | ((with_reducible refine gate_callee (f := 32) rfl ?_); refine goesL_ (some 53) rfl rfl Try.func32 (by kernel_rfl) rfl #[.string t852, .string t859] rfl (by (try simp only [List.map_toArray, List.map_cons, List.map_nil]); rfl) ?_; (with_reducible refine (impl_MakeEither.calls kj10 t852 t859 t861 false _ A15.out).mono ?_); rintro e w52 ⟨rfl, hb⟩; refine ⟨_, rfl, ?_⟩; replace HO858 := Aside0.mk (Kd.R_below HO858.out hb); replace HB := Aside0.mk (below_step HB.out hb); (try clear hb)) | ((with_reducible refine gate_callee (f := 33) rfl ?_); refine goesL_ (some 58) rfl rfl Try.func33 (by kernel_rfl) rfl #[.string t851] rfl (by (try simp only [List.map_toArray, List.map_cons, List.map_nil]); rfl) ?_; (with_reducible refine (impl_StarOf.calls kj10 t851 t863 t864 _ A16.out).mono ?_); rintro e w53 ⟨rfl, hb⟩; refine ⟨_, rfl, ?_⟩; replace HO858 := Aside0.mk (Kd.R_below HO858.out hb); replace HB := Aside0.mk (below_step HB.out hb); (try clear hb)) | (go_at_call 17; (with_reducible refine (impl_SetHas.calls t852 0 t869 _ A46.out).mono ?_); rintro e w54 ⟨rfl, hb⟩; replace HO858 := Aside0.mk (Kd.R_below HO858.out hb); replace HB := Aside0.mk (below_step HB.out hb); (try clear hb)) | (go_at_call 17; (with_reducible refine (impl_SetHas.calls t851 0 t870 _ A47.out).mono ?_); rintro e w55 ⟨rfl, hb⟩; replace HO858 := Aside0.mk (Kd.R_below HO858.out hb); replace HB := Aside0.mk (below_step HB.out hb); (try clear hb)))
        go_ret
        exact ⟨by first | rfl | (simp [*, errW_none, errW_some] <;> rfl), HB.out⟩

/-- THE ONE PURE STATEMENT of laws_FnStarPlus: yours. -/
def laws_FnStarPlus.Pure : Prop := ∀ (l0 : List Int), l0.length ≤ maxLen → l0.length * 1 ≤ 140737488351232 → (∀ x ∈ l0, (Lit.int .u8 x).wf = true) → ∃ k, laws_FnStarPlus.f k l0 = some true
theorem laws_FnStarPlus.walk (P : laws_FnStarPlus.Pure) (a0 : Option Addr) (len0 cap0 : Nat) (z0 : List Int) (w : World) (w0 : (a0 = none ∧ len0 = 0 ∧ cap0 = 0 ∧ z0 = []) ∨ ∃ x, a0 = some x ∧ len0 ≤ cap0 ∧ cap0 ≤ maxLen ∧ z0.length = cap0 ∧ (∀ i, i < z0.length → w.cell? (x.add i) = some (.int .u8 (z0.getD i 0))) ∧ ∀ n ∈ z0, (Lit.int .u8 n).wf = true) (y0 : len0 * 1 ≤ 140737488351232) :
  Calls Try.prog 7 #[.slice a0 len0 cap0] w fun e w' => e = .returned (.bool true) ∧ Below w.heap.size w w' := by
 obtain ⟨l0, rfl, hr0, hm0, hw0, hc0⟩ := ReadsInt.ofRowC w0
 obtain ⟨k, h⟩ := P l0 hm0 y0 hw0
 refine (laws_FnStarPlus.calls k _ _ l0 true w (Kd.C_of_reads (d := (0 : Int)) (h1 := fun _ => rfl) hr0) hc0 h).mono ?_
 rintro e w' ⟨rfl, hd⟩
 exact ⟨rfl, hd⟩

end Go.Proofs.Ytpkpgdlbgcjloaa.Q

namespace Go.Proofs.Ytpkpgdlbgcjloaa.Q
open Go.RowKit Go.Proofs.YtpkpgdlbgcjloaaW.PrintWords Go.Proofs.YtpkpgdlbgcjloaaW.PrintLast Go.Proofs.YtpkpgdlbgcjloaaW.PrintMore
attribute [local go_sem] max2_int min2_int max_two min_two max_three min_three max_four min_four   -- for this text's walks alone
set_option linter.unusedVariables false
set_option linter.unusedSimpArgs false

end Go.Proofs.Ytpkpgdlbgcjloaa.Q

namespace Go.Proofs.Ytpkpgdlbgcjloaa.Q
open Go.RowKit Go.Proofs.YtpkpgdlbgcjloaaW.PrintWords Go.Proofs.YtpkpgdlbgcjloaaW.PrintLast Go.Proofs.YtpkpgdlbgcjloaaW.PrintMore
attribute [local go_sem] max2_int min2_int max_two min_two max_three min_three max_four min_four   -- for this text's walks alone
set_option linter.unusedVariables false
set_option linter.unusedSimpArgs false

end Go.Proofs.Ytpkpgdlbgcjloaa.Q

namespace Go.Proofs.Ytpkpgdlbgcjloaa.Q
open Go.RowKit Go.Proofs.YtpkpgdlbgcjloaaW.PrintWords Go.Proofs.YtpkpgdlbgcjloaaW.PrintLast Go.Proofs.YtpkpgdlbgcjloaaW.PrintMore
attribute [local go_sem] max2_int min2_int max_two min_two max_three min_three max_four min_four   -- for this text's walks alone
set_option linter.unusedVariables false
set_option linter.unusedSimpArgs false

end Go.Proofs.Ytpkpgdlbgcjloaa.Q

namespace Go.Proofs.Ytpkpgdlbgcjloaa.Q
open Go.RowKit Go.Proofs.YtpkpgdlbgcjloaaW.PrintWords Go.Proofs.YtpkpgdlbgcjloaaW.PrintLast Go.Proofs.YtpkpgdlbgcjloaaW.PrintMore
attribute [local go_sem] max2_int min2_int max_two min_two max_three min_three max_four min_four   -- for this text's walks alone
set_option linter.unusedVariables false
set_option linter.unusedSimpArgs false

end Go.Proofs.Ytpkpgdlbgcjloaa.Q

namespace Go.Proofs.Ytpkpgdlbgcjloaa.Q
open Go.RowKit Go.Proofs.YtpkpgdlbgcjloaaW.PrintWords Go.Proofs.YtpkpgdlbgcjloaaW.PrintLast Go.Proofs.YtpkpgdlbgcjloaaW.PrintMore
attribute [local go_sem] max2_int min2_int max_two min_two max_three min_three max_four min_four   -- for this text's walks alone
set_option linter.unusedVariables false
set_option linter.unusedSimpArgs false

end Go.Proofs.Ytpkpgdlbgcjloaa.Q

namespace Go.Proofs.Ytpkpgdlbgcjloaa.Q
open Go.RowKit Go.Proofs.YtpkpgdlbgcjloaaW.PrintWords Go.Proofs.YtpkpgdlbgcjloaaW.PrintLast Go.Proofs.YtpkpgdlbgcjloaaW.PrintMore
attribute [local go_sem] max2_int min2_int max_two min_two max_three min_three max_four min_four   -- for this text's walks alone
set_option linter.unusedVariables false
set_option linter.unusedSimpArgs false

end Go.Proofs.Ytpkpgdlbgcjloaa.Q

namespace Go.Proofs.Ytpkpgdlbgcjloaa.Q
open Go.RowKit Go.Proofs.YtpkpgdlbgcjloaaW.PrintWords Go.Proofs.YtpkpgdlbgcjloaaW.PrintLast Go.Proofs.YtpkpgdlbgcjloaaW.PrintMore
attribute [local go_sem] max2_int min2_int max_two min_two max_three min_three max_four min_four   -- for this text's walks alone
set_option linter.unusedVariables false
set_option linter.unusedSimpArgs false

end Go.Proofs.Ytpkpgdlbgcjloaa.Q

namespace Go.Proofs.Ytpkpgdlbgcjloaa.Q
open Go.RowKit Go.Proofs.YtpkpgdlbgcjloaaW.PrintWords Go.Proofs.YtpkpgdlbgcjloaaW.PrintLast Go.Proofs.YtpkpgdlbgcjloaaW.PrintMore
attribute [local go_sem] max2_int min2_int max_two min_two max_three min_three max_four min_four   -- for this text's walks alone
set_option linter.unusedVariables false
set_option linter.unusedSimpArgs false

end Go.Proofs.Ytpkpgdlbgcjloaa.Q

namespace Go.Proofs.Ytpkpgdlbgcjloaa.Q
open Go.RowKit Go.Proofs.YtpkpgdlbgcjloaaW.PrintWords Go.Proofs.YtpkpgdlbgcjloaaW.PrintLast Go.Proofs.YtpkpgdlbgcjloaaW.PrintMore
attribute [local go_sem] max2_int min2_int max_two min_two max_three min_three max_four min_four   -- for this text's walks alone
set_option linter.unusedVariables false
set_option linter.unusedSimpArgs false

end Go.Proofs.Ytpkpgdlbgcjloaa.Q

namespace Go.Proofs.Ytpkpgdlbgcjloaa.Q
open Go.RowKit Go.Proofs.YtpkpgdlbgcjloaaW.PrintWords Go.Proofs.YtpkpgdlbgcjloaaW.PrintLast Go.Proofs.YtpkpgdlbgcjloaaW.PrintMore
attribute [local go_sem] max2_int min2_int max_two min_two max_three min_three max_four min_four   -- for this text's walks alone
set_option linter.unusedVariables false
set_option linter.unusedSimpArgs false

end Go.Proofs.Ytpkpgdlbgcjloaa.Q

namespace Go.Proofs.Ytpkpgdlbgcjloaa.Q
open Go.RowKit Go.Proofs.YtpkpgdlbgcjloaaW.PrintWords Go.Proofs.YtpkpgdlbgcjloaaW.PrintLast Go.Proofs.YtpkpgdlbgcjloaaW.PrintMore
attribute [local go_sem] max2_int min2_int max_two min_two max_three min_three max_four min_four   -- for this text's walks alone
set_option linter.unusedVariables false
set_option linter.unusedSimpArgs false

end Go.Proofs.Ytpkpgdlbgcjloaa.Q

namespace Go.Proofs.Ytpkpgdlbgcjloaa.Q
open Go.RowKit Go.Proofs.YtpkpgdlbgcjloaaW.PrintWords Go.Proofs.YtpkpgdlbgcjloaaW.PrintLast Go.Proofs.YtpkpgdlbgcjloaaW.PrintMore
attribute [local go_sem] max2_int min2_int max_two min_two max_three min_three max_four min_four   -- for this text's walks alone
set_option linter.unusedVariables false
set_option linter.unusedSimpArgs false
def impl_sums.l0 : Nat → Int → Int → Int → List Bool → List Bool → List Bool → List Bool → Option (Bool)
 | 0, _, _, _, _, _, _, _ => none
 | k + 1, x2, x9, x10, x623000, x623001, x624000, x624001 => if x10 < x9 then ((impl_set_has.f x623000 x623001 x10).bind fun t624 => (if t624 = true then ((impl_set_has.f x624000 x624001 (wrap64 (x2 - x10))).bind fun t625 => (if t625 = true then (some true) else (impl_sums.l0 k x2 x9 (wrap64 (x10 + 1)) x623000 x623001 x624000 x624001))) else (impl_sums.l0 k x2 x9 (wrap64 (x10 + 1)) x623000 x623001 x624000 x624001))) else (some false)
def impl_sums.f (k : Nat) (l0_0 : List Bool) (l0_1 : List Bool) (l1_0 : List Bool) (l1_1 : List Bool) (a2 : Int) : Option (Bool) := impl_sums.l0 k a2 (wrap64 (a2 + 1)) 0 l0_0 l0_1 l1_0 l1_1
theorem impl_sums.mono_l : ∀ k, (∀ y0 y1 y2 y3 y4 y5 y6, LeO (impl_sums.l0 k y0 y1 y2 y3 y4 y5 y6) (impl_sums.l0 (k + 1) y0 y1 y2 y3 y4 y5 y6))
 | 0 => fun _ _ _ _ _ _ _ r h => by simp [impl_sums.l0] at h
 | k + 1 => by
  have ih0 := impl_sums.mono_l k
  ·intro y0 y1 y2 y3 y4 y5 y6
   unfold impl_sums.l0
   repeat' first | (with_reducible exact ih0 _ _ _ _ _ _ _) | (with_reducible exact LeO.refl _) | (with_reducible refine LeO.ite ?_ ?_) | (with_reducible refine LeO.bind ?_ (fun _ => ?_))
theorem impl_sums.mono : ∀ a0 a1 a2 a3 a4 k, LeO (impl_sums.f k a0 a1 a2 a3 a4) (impl_sums.f (k + 1) a0 a1 a2 a3 a4) := by
 intro a0 a1 a2 a3 a4 k
 have ih0 := impl_sums.mono_l k
 unfold impl_sums.f
 repeat' (with_reducible exact ih0 _ _ _ _ _ _ _)
set_option maxHeartbeats 8000000 in
set_option maxRecDepth 100000 in
theorem impl_sums.calls (k : Nat) (A0_0 : Option Addr) (c0_0 : Nat) (l0_0 : List Bool) (A0_1 : Option Addr) (c0_1 : Nat) (l0_1 : List Bool) (A1_0 : Option Addr) (c1_0 : Nat) (l1_0 : List Bool) (A1_1 : Option Addr) (c1_1 : Nat) (l1_1 : List Bool) (a2 : Int) (r : Bool) (w : World) (hr0_0 : Kd.C Kd.bool w A0_0 l0_0.length l0_0) (hc0_0 : l0_0.length ≤ c0_0) (hr0_1 : Kd.C Kd.bool w A0_1 l0_1.length l0_1) (hc0_1 : l0_1.length ≤ c0_1) (hr1_0 : Kd.C Kd.bool w A1_0 l1_0.length l1_0) (hc1_0 : l1_0.length ≤ c1_0) (hr1_1 : Kd.C Kd.bool w A1_1 l1_1.length l1_1) (hc1_1 : l1_1.length ≤ c1_1) (h : impl_sums.f k l0_0 l0_1 l1_0 l1_1 a2 = some r) :
  Calls Try.prog 65 #[.agg #[.slice A0_0 l0_0.length c0_0, .slice A0_1 l0_1.length c0_1], .agg #[.slice A1_0 l1_0.length c1_0, .slice A1_1 l1_1.length c1_1], .int .i64 a2] w fun e w' => e = .returned (.bool r) ∧ Below w.heap.size w w' := by
 have hu60 := Try.underlying60
 have HR0_0 := Aside0.mk hr0_0
 have HC0_0 := Aside0.mk hc0_0
 clear hr0_0 hc0_0
 have HR0_1 := Aside0.mk hr0_1
 have HC0_1 := Aside0.mk hc0_1
 clear hr0_1 hc0_1
 have HR1_0 := Aside0.mk hr1_0
 have HC1_0 := Aside0.mk hc1_0
 clear hr1_0 hc1_0
 have HR1_1 := Aside0.mk hr1_1
 have HC1_1 := Aside0.mk hc1_1
 clear hr1_1 hc1_1
 have HB := Aside0.mk (Below.refl w.heap.size w)
 have H : (impl_sums.l0 k a2 (wrap64 (a2 + 1)) 0 l0_0 l0_1 l1_0 l1_1) = some r := h
 clear h
 have H' := Aside0.mk H
 clear H
 go_enter Try.func65, Try.ntmps65
 go_wp2_with (first | ((with_reducible refine gate_dst (N := 3) rfl ?_); refine box_event ?hg (N := 3) ?hd (cs := #[.slice A0_0 l0_0.length c0_0, .slice A0_1 l0_1.length c0_1]) (t := 60) ?hr ?_; (case hd => rfl); (case hg => rfl); (case hr => first | (go_simp; done)); intro gb622 hg w4 hbox hb; have BK622 := Aside0.mk hbox; have GW622 := Aside0.mk ((by rw [hg]; exact (below_size HB.out) : w.heap.size ≤ gb622)); have GE622 := Aside0.mk ((by rw [hg]; exact (below_size HB.out) : w.heap.size ≤ gb622)); replace HB := Aside0.mk (below_step HB.out hb); clear hb hbox hg) | ((with_reducible refine gate_dst (N := 4) rfl ?_); refine box_event ?hg (N := 4) ?hd (cs := #[.slice A1_0 l1_0.length c1_0, .slice A1_1 l1_1.length c1_1]) (t := 60) ?hr ?_; (case hd => rfl); (case hg => rfl); (case hr => first | (go_simp; done)); intro gb623 hg w5 hbox hb; have BK623 := Aside0.mk hbox; have GW623 := Aside0.mk ((by rw [hg]; exact (below_size HB.out) : w.heap.size ≤ gb623)); have GE623 := Aside0.mk ((by rw [hg]; exact (below_size HB.out) : w.heap.size ≤ gb623)); replace HB := Aside0.mk (below_step HB.out hb); have NB622_623 := Aside0.mk ((by rw [hg]; exact Nat.ne_of_lt (blk_lt (g := gb622) (o := .cells #[.slice A0_0 l0_0.length c0_0, .slice A0_1 l0_1.length c0_1] 60 (0, 0)) BK622.out) : gb622 ≠ gb623)); have NB623_622 := Aside0.mk ((by rw [hg]; exact Nat.ne_of_gt (blk_lt (g := gb622) (o := .cells #[.slice A0_0 l0_0.length c0_0, .slice A0_1 l0_1.length c0_1] 60 (0, 0)) BK622.out) : gb623 ≠ gb622)); replace BK622 := Aside0.mk (blk_below (g := gb622) (o := .cells #[.slice A0_0 l0_0.length c0_0, .slice A0_1 l0_1.length c0_1] 60 (0, 0)) BK622.out hb); clear hb hbox hg))
 go_loopg [10] k (fun kq v10 w' => ∃ (x10_1 : Int), v10 = .int .i64 x10_1 ∧ Aside0 (impl_sums.l0 kq a2 (wrap64 (a2 + 1)) x10_1 l0_0 l0_1 l1_0 l1_1 = some r) ∧ Aside0 (kq ≤ k) ∧ Aside0 (w'.heap[gb622]? = some (.cells #[(.slice A0_0 l0_0.length c0_0), (.slice A0_1 l0_1.length c0_1)] 60 (0, 0))) ∧ Aside0 (w'.heap[gb623]? = some (.cells #[(.slice A1_0 l1_0.length c1_0), (.slice A1_1 l1_1.length c1_1)] 60 (0, 0))) ∧ Aside0 (Below w.heap.size w w'))
 case atStart => exact ⟨(0), (by rfl), H', ⟨Nat.le_refl _⟩, ⟨by exact BK622.out⟩, ⟨by exact BK623.out⟩, ⟨HB.out⟩⟩
 case round =>
  clear H'
  obtain ⟨x10_1, rfl, HA, HK1, BK622, BK623, HB⟩ := hrel
  cases gk with
  | zero => exact absurd HA.out (by simp [impl_sums.l0])
  | succ k1 =>
   have H := HA.out
   clear HA
   simp only [impl_sums.l0] at H
   by_cases c6 : x10_1 < (wrap64 (a2 + 1))
   ·rw [if_pos c6] at H
    have c6b0 : decide (x10_1 < (wrap64 (a2 + 1))) = true := decide_eq_true c6
    clear c6
    replace H := Option.bind_eq_some_iff.mp H
    obtain ⟨t624, A70, H⟩ := H
    replace H : (if t624 = true then ((impl_set_has.f l1_0 l1_1 (wrap64 (a2 - x10_1))).bind fun t625 => (if t625 = true then (some true) else (impl_sums.l0 k1 a2 (wrap64 (a2 + 1)) (wrap64 (x10_1 + 1)) l0_0 l0_1 l1_0 l1_1))) else (impl_sums.l0 k1 a2 (wrap64 (a2 + 1)) (wrap64 (x10_1 + 1)) l0_0 l0_1 l1_0 l1_1)) = some r := H
    have A7 := Aside0.mk A70
    clear A70
    by_cases c8 : t624 = true
    ·subst c8
     replace H : ((impl_set_has.f l1_0 l1_1 (wrap64 (a2 - x10_1))).bind fun t625 => (if t625 = true then (some true) else (impl_sums.l0 k1 a2 (wrap64 (a2 + 1)) (wrap64 (x10_1 + 1)) l0_0 l0_1 l1_0 l1_1))) = some r := by rw [if_pos rfl] at H; exact H
     replace H := Option.bind_eq_some_iff.mp H
     obtain ⟨t625, A90, H⟩ := H
     replace H : (if t625 = true then (some true) else (impl_sums.l0 k1 a2 (wrap64 (a2 + 1)) (wrap64 (x10_1 + 1)) l0_0 l0_1 l1_0 l1_1)) = some r := H
     have A9 := Aside0.mk A90
     clear A90
     by_cases c10 : t625 = true
     all_goals
      first
      |replace c10 := Bool.eq_false_iff.mpr c10
      |skip
      subst c10
      first
      |replace H : (some true) = some r := by rw [if_pos rfl] at H; exact H
       obtain rfl := Option.some.inj H
      |replace H : (impl_sums.l0 k1 a2 (wrap64 (a2 + 1)) (wrap64 (x10_1 + 1)) l0_0 l0_1 l1_0 l1_1) = some r := by rw [if_neg (show ¬ (false = true) by decide)] at H; exact H
       have H' := Aside0.mk H
       clear H
      have hnb11 := NB622_623.out
      have hnc11 := NB623_622.out
      have hcz12_0 : wr.cell? ⟨gb622, 0, none⟩ = some (.slice A0_0 l0_0.length c0_0) := (blk_cell BK622.out 0).trans rfl
      have hcz12_1 : wr.cell? ⟨gb622, 1, none⟩ = some (.slice A0_1 l0_1.length c0_1) := (blk_cell BK622.out 1).trans rfl
      have hfz12_0 := blk_frozen BK622.out 0
      have hfz12_1 := blk_frozen BK622.out 1
      go_wp2_with (first | ((with_reducible refine gate_callee (f := 61) rfl ?_); refine goesL_ (some 15) rfl rfl Try.func61 (by kernel_rfl) rfl #[.agg #[.slice A0_0 l0_0.length c0_0, .slice A0_1 l0_1.length c0_1], .int .i64 x10_1] rfl (by (try simp only [List.map_toArray, List.map_cons, List.map_nil]); rfl) ?_; (with_reducible refine (impl_set_has.calls _ _ l0_0 _ _ l0_1 x10_1 true _ ?side1 ?side2 ?side3 ?side4 A7.out).mono ?_); (case side1 => repeat (exact (Kd.C_below HR0_0.out HB.out))); (case side2 => exact HC0_0.out); (case side3 => repeat (exact (Kd.C_below HR0_1.out HB.out))); (case side4 => exact HC0_1.out); rintro e w13 ⟨rfl, hb⟩; refine ⟨_, rfl, ?_⟩; replace BK622 := Aside0.mk (blk_below (g := gb622) (o := .cells #[.slice A0_0 l0_0.length c0_0, .slice A0_1 l0_1.length c0_1] 60 (0, 0)) BK622.out hb); replace BK623 := Aside0.mk (blk_below (g := gb623) (o := .cells #[.slice A1_0 l1_0.length c1_0, .slice A1_1 l1_1.length c1_1] 60 (0, 0)) BK623.out hb); replace HB := Aside0.mk (below_step HB.out hb); (try clear hb); have hcz14_0 : w13.cell? ⟨gb623, 0, none⟩ = some (.slice A1_0 l1_0.length c1_0) := (blk_cell BK623.out 0).trans rfl; have hcz14_1 : w13.cell? ⟨gb623, 1, none⟩ = some (.slice A1_1 l1_1.length c1_1) := (blk_cell BK623.out 1).trans rfl; have hfz14_0 := blk_frozen BK623.out 0; have hfz14_1 := blk_frozen BK623.out 1) | (go_at_call 61; (with_reducible refine (impl_set_has.calls _ _ l1_0 _ _ l1_1 (wrap64 (a2 - x10_1)) _ _ ?side1 ?side2 ?side3 ?side4 A9.out).mono ?_); (case side1 => repeat (exact (Kd.C_below HR1_0.out HB.out))); (case side2 => exact HC1_0.out); (case side3 => repeat (exact (Kd.C_below HR1_1.out HB.out))); (case side4 => exact HC1_1.out); rintro e w15 ⟨rfl, hb⟩; replace BK622 := Aside0.mk (blk_below (g := gb622) (o := .cells #[.slice A0_0 l0_0.length c0_0, .slice A0_1 l0_1.length c0_1] 60 (0, 0)) BK622.out hb); replace BK623 := Aside0.mk (blk_below (g := gb623) (o := .cells #[.slice A1_0 l1_0.length c1_0, .slice A1_1 l1_1.length c1_1] 60 (0, 0)) BK623.out hb); replace HB := Aside0.mk (below_step HB.out hb); (try clear hb)))
      first
      |go_ret
       exact ⟨by first | rfl | (simp [*, errW_none, errW_some] <;> rfl), HB.out⟩
      |go_roundg k1
       case measure => have := HK1.out; omega
       case rel => exact ⟨(wrap64 (x10_1 + 1)), (by rfl), H', ⟨by have := HK1.out; omega⟩, ⟨by exact BK622.out⟩, ⟨by exact BK623.out⟩, ⟨HB.out⟩⟩
    ·replace c8 := Bool.eq_false_iff.mpr c8
     subst c8
     replace H : (impl_sums.l0 k1 a2 (wrap64 (a2 + 1)) (wrap64 (x10_1 + 1)) l0_0 l0_1 l1_0 l1_1) = some r := by rw [if_neg (show ¬ (false = true) by decide)] at H; exact H
     have H' := Aside0.mk H
     clear H
     have hnb21 := NB622_623.out
     have hnc21 := NB623_622.out
     have hcz22_0 : wr.cell? ⟨gb622, 0, none⟩ = some (.slice A0_0 l0_0.length c0_0) := (blk_cell BK622.out 0).trans rfl
     have hcz22_1 : wr.cell? ⟨gb622, 1, none⟩ = some (.slice A0_1 l0_1.length c0_1) := (blk_cell BK622.out 1).trans rfl
     have hfz22_0 := blk_frozen BK622.out 0
     have hfz22_1 := blk_frozen BK622.out 1
     go_wp2_with (first | ((with_reducible refine gate_callee (f := 61) rfl ?_); refine goesL_ (some 15) rfl rfl Try.func61 (by kernel_rfl) rfl #[.agg #[.slice A0_0 l0_0.length c0_0, .slice A0_1 l0_1.length c0_1], .int .i64 x10_1] rfl (by (try simp only [List.map_toArray, List.map_cons, List.map_nil]); rfl) ?_; (with_reducible refine (impl_set_has.calls _ _ l0_0 _ _ l0_1 x10_1 false _ ?side1 ?side2 ?side3 ?side4 A7.out).mono ?_); (case side1 => repeat (exact (Kd.C_below HR0_0.out HB.out))); (case side2 => exact HC0_0.out); (case side3 => repeat (exact (Kd.C_below HR0_1.out HB.out))); (case side4 => exact HC0_1.out); rintro e w23 ⟨rfl, hb⟩; refine ⟨_, rfl, ?_⟩; replace BK622 := Aside0.mk (blk_below (g := gb622) (o := .cells #[.slice A0_0 l0_0.length c0_0, .slice A0_1 l0_1.length c0_1] 60 (0, 0)) BK622.out hb); replace BK623 := Aside0.mk (blk_below (g := gb623) (o := .cells #[.slice A1_0 l1_0.length c1_0, .slice A1_1 l1_1.length c1_1] 60 (0, 0)) BK623.out hb); replace HB := Aside0.mk (below_step HB.out hb); (try clear hb)))
     go_roundg k1
     case measure => have := HK1.out; omega
     case rel => exact ⟨(wrap64 (x10_1 + 1)), (by rfl), H', ⟨by have := HK1.out; omega⟩, ⟨by exact BK622.out⟩, ⟨by exact BK623.out⟩, ⟨HB.out⟩⟩
   ·rw [if_neg c6] at H
    have c6b0 : decide (x10_1 < (wrap64 (a2 + 1))) = false := decide_eq_false c6
    clear c6
    obtain rfl := Option.some.inj H
    go_wp2
    go_ret
    exact ⟨by first | rfl | (simp [*, errW_none, errW_some] <;> rfl), HB.out⟩


theorem impl_SumOf.lit (k : Nat) (B1 B2 : Nat) (A0 : Option Addr) (c0 : Nat) (l0 : List Bool) (A1 : Option Addr) (c1 : Nat) (l1 : List Bool) (A2 : Option Addr) (c2 : Nat) (l2 : List Bool) (A3 : Option Addr) (c3 : Nat) (l3 : List Bool) (n : Int) (b : Bool) (W : World)
  (h1 : W.heap[B1]? = some (.cells #[.slice A0 l0.length c0, .slice A1 l1.length c1] 60 (0, 0))) (h2 : W.heap[B2]? = some (.cells #[.slice A2 l2.length c2, .slice A3 l3.length c3] 60 (0, 0)))
  (r0 : Kd.C Kd.bool W A0 l0.length l0) (q0 : l0.length ≤ c0) (r1 : Kd.C Kd.bool W A1 l1.length l1) (q1 : l1.length ≤ c1) (r2 : Kd.C Kd.bool W A2 l2.length l2) (q2 : l2.length ≤ c2) (r3 : Kd.C Kd.bool W A3 l3.length l3) (q3 : l3.length ≤ c3) (h : impl_sums.f k l0 l1 l2 l3 n = some b) :
  Calls Try.prog 87 #[.int .i64 n, .pointer (some ⟨B1, 0, none⟩), .pointer (some ⟨B2, 0, none⟩)] W fun e W' => e = .returned (.bool b) ∧ Below W.heap.size W W' := by
 have c10 : W.cell? ⟨B1, 0, none⟩ = some (.slice A0 l0.length c0) := (blk_cell h1 0).trans rfl
 have c11 : W.cell? ⟨B1, 1, none⟩ = some (.slice A1 l1.length c1) := (blk_cell h1 1).trans rfl
 have c20 : W.cell? ⟨B2, 0, none⟩ = some (.slice A2 l2.length c2) := (blk_cell h2 0).trans rfl
 have c21 : W.cell? ⟨B2, 1, none⟩ = some (.slice A3 l3.length c3) := (blk_cell h2 1).trans rfl
 have R0 := Aside0.mk r0; have R1 := Aside0.mk r1; have R2 := Aside0.mk r2; have R3 := Aside0.mk r3; have H := Aside0.mk h
 have C := impl_sums.calls k A0 c0 l0 A1 c1 l1 A2 c2 l2 A3 c3 l3 n b W r0 q0 r1 q1 r2 q2 r3 q3 h
 clear h1 h2 r0 r1 r2 r3 q0 q1 q2 q3 h
 go_enter Try.func87, Try.ntmps87
 go_wp2_with (go_at_call 65; refine C.mono ?_; rintro e w' ⟨rfl, hb⟩)
 go_ret
 exact ⟨rfl, hb⟩
def impl_SumOf.j0 : Nat → Bool → List Bool → List Bool → List Bool → List Bool → Option (ByteArray × Bool)
 | 0, _, _, _, _, _ => none
 | k + 1, x25, x437000, x437001, x445000, x445001 => if x25 = true then (some ((⟨#[]⟩ : ByteArray), false)) else ((impl_lcm.f k (x437001.length : Int) (x445001.length : Int)).bind fun t445 => ((impl_made.f k 200 t445 (fun n_ => impl_sums.f k x437000 x437001 x445000 x445001 n_)).bind fun bt446 => (some (bt446.1, bt446.2))))
def impl_SumOf.f (k : Nat) (a0 : ByteArray) (a1 : ByteArray) : Option (ByteArray × Bool) := (impl_small.f k a0).bind fun bt429 => ((impl_small.f k a1).bind fun bt437 => (if bt429.2.2 = true then (impl_SumOf.j0 k (!bt437.2.2) bt429.1 bt429.2.1 bt437.1 bt437.2.1) else (impl_SumOf.j0 k true bt429.1 bt429.2.1 bt437.1 bt437.2.1)))
theorem impl_SumOf.mono_l : ∀ k, (∀ y0 y1 y2 y3 y4, LeO (impl_SumOf.j0 k y0 y1 y2 y3 y4) (impl_SumOf.j0 (k + 1) y0 y1 y2 y3 y4))
 | 0 => fun _ _ _ _ _ r h => by simp [impl_SumOf.j0] at h
 | k + 1 => by
  have ih0 := impl_SumOf.mono_l k
  ·intro y0 y1 y2 y3 y4
   unfold impl_SumOf.j0
   repeat' first | (with_reducible exact impl_lcm.mono _ _ _) | (with_reducible exact impl_made.mono _ _ (fun _ => impl_sums.mono _ _ _ _ _ _) _ _ _) | (with_reducible exact LeO.refl _) | (with_reducible refine LeO.ite ?_ ?_) | (with_reducible refine LeO.bind ?_ (fun _ => ?_))
theorem impl_SumOf.mono : ∀ a0 a1 k, LeO (impl_SumOf.f k a0 a1) (impl_SumOf.f (k + 1) a0 a1) := by
 intro a0 a1 k
 have ih0 := impl_SumOf.mono_l k
 unfold impl_SumOf.f
 repeat' first | (with_reducible exact ih0 _ _ _ _ _) | (with_reducible exact impl_small.mono _ _) | (with_reducible refine LeO.ite ?_ ?_) | (with_reducible refine LeO.bind ?_ (fun _ => ?_))
set_option maxHeartbeats 8000000 in
set_option maxRecDepth 100000 in
theorem impl_SumOf.calls (k : Nat) (a0 : ByteArray) (a1 : ByteArray) (r1 : ByteArray) (r2 : Bool) (w : World) (h : impl_SumOf.f k a0 a1 = some (r1, r2)) :
  Calls Try.prog 37 #[.string a0, .string a1] w fun e w' => e = .returned (.tuple #[.string r1, .bool r2]) ∧ Below w.heap.size w w' := by
 have hmf : ∀ (fn : Fn) (first cap : Array Value) (w : World), (Instr.makeFunc fn first cap).run Try.prog w = .ok (.func fn first cap) w := fun _ _ _ _ => rfl
 have hu60 := Try.underlying60
 have HB := Aside0.mk (Below.refl w.heap.size w)
 have H : ((impl_small.f k a0).bind fun bt429 => ((impl_small.f k a1).bind fun bt437 => (if bt429.2.2 = true then (impl_SumOf.j0 k (!bt437.2.2) bt429.1 bt429.2.1 bt437.1 bt437.2.1) else (impl_SumOf.j0 k true bt429.1 bt429.2.1 bt437.1 bt437.2.1)))) = some (r1, r2) := h
 clear h
 replace H := Option.bind_eq_some_iff.mp H
 obtain ⟨⟨t429, t432, t435⟩, A30, H⟩ := H
 replace H : ((impl_small.f k a1).bind fun bt437 => (if t435 = true then (impl_SumOf.j0 k (!bt437.2.2) t429 t432 bt437.1 bt437.2.1) else (impl_SumOf.j0 k true t429 t432 bt437.1 bt437.2.1))) = some (r1, r2) := H
 have A3 := Aside0.mk A30
 clear A30
 replace H := Option.bind_eq_some_iff.mp H
 obtain ⟨⟨t437, t440, t443⟩, A40, H⟩ := H
 replace H : (if t435 = true then (impl_SumOf.j0 k (!t443) t429 t432 t437 t440) else (impl_SumOf.j0 k true t429 t432 t437 t440)) = some (r1, r2) := H
 have A4 := Aside0.mk A40
 clear A40
 have HC5 := Aside0.mk H
 clear H
 go_enter Try.func37, Try.ntmps37
 go_upto_region 3 with (first | ((with_reducible refine gate_callee (f := 64) rfl ?_); refine goesL_ (some 12) rfl rfl Try.func64 (by kernel_rfl) rfl #[.string a0] rfl (by (try simp only [List.map_toArray, List.map_cons, List.map_nil]); rfl) ?_; (with_reducible refine (impl_small.calls k a0 t429 t432 t435 _ A3.out).mono ?_); rintro e w6 ⟨v430, v433, rfl, ho0, ho1, hb⟩; refine ⟨_, rfl, ?_⟩; have HO431 := Aside0.mk (Kd.R_lower ho0 (below_size HB.out)); have HO434 := Aside0.mk (Kd.R_lower ho1 (below_size HB.out)); replace HB := Aside0.mk (below_step HB.out hb); (try clear hb); (try clear ho0); (try clear ho1)) | ((with_reducible refine gate_dst (N := 6) rfl ?_); refine box_event ?hg (N := 6) ?hd (cs := #[.slice none 0 0, .slice none 0 0]) (t := 60) ?hr ?_; (case hd => rfl); (case hg => rfl); (case hr => first | (go_simp; done)); intro gb436 hg w7 hbox hb; replace HO431 := Aside0.mk (Kd.R_below HO431.out hb); replace HO434 := Aside0.mk (Kd.R_below HO434.out hb); have BK436 := Aside0.mk hbox; have GW436 := Aside0.mk ((by rw [hg]; exact (below_size HB.out) : w.heap.size ≤ gb436)); have GE436 := Aside0.mk ((by rw [hg]; exact (below_size HB.out) : w.heap.size ≤ gb436)); replace HB := Aside0.mk (below_step HB.out hb); clear hb hbox hg; obtain ⟨Ao8, co8, eo8⟩ := Kd.R_slice HO431.out; subst eo8; have hcz9_0 : w7.cell? ⟨gb436, 0, none⟩ = some (.slice none 0 0) := (blk_cell BK436.out 0).trans rfl; have hcz9_1 : w7.cell? ⟨gb436, 1, none⟩ = some (.slice none 0 0) := (blk_cell BK436.out 1).trans rfl; have hfz9_0 := blk_frozen BK436.out 0; have hfz9_1 := blk_frozen BK436.out 1; obtain ⟨Ao10, co10, eo10⟩ := Kd.R_slice HO434.out; subst eo10) | ((with_reducible refine gate_callee (f := 64) rfl ?_); refine goesL_ (some 17) rfl rfl Try.func64 (by kernel_rfl) rfl #[.string a1] rfl (by (try simp only [List.map_toArray, List.map_cons, List.map_nil]); rfl) ?_; (with_reducible refine (impl_small.calls k a1 t437 t440 t443 _ A4.out).mono ?_); rintro e w11 ⟨v438, v441, rfl, ho0, ho1, hb⟩; refine ⟨_, rfl, ?_⟩; have HO439 := Aside0.mk (Kd.R_lower (Kd.R_new' (Kd.R_new' ho0 (Kd.R_lt (by exact (Kd.R_mono (Kd.R_far (p := ⟨gb436, 1, none⟩) (Kd.R_far (p := ⟨gb436, 0, none⟩) (Kd.R_types HO431.out BK436.out (by decide)) (fun _ hk => hk.2) (.slice Ao8 t429.length co8)) (fun _ hk => hk.2) (.slice Ao10 t432.length co10)) (fun _ h_ => h_.1))))) (Kd.R_lt (by exact (Kd.R_mono (Kd.R_far (p := ⟨gb436, 1, none⟩) (Kd.R_far (p := ⟨gb436, 0, none⟩) (Kd.R_types HO434.out BK436.out (by decide)) (fun _ hk => hk.2) (.slice Ao8 t429.length co8)) (fun _ hk => hk.2) (.slice Ao10 t432.length co10)) (fun _ h_ => h_.1))))) (below_size (by repeat (first | (with_reducible first | exact HB.out | refine below_set ?_ GE436.out))))); have HO442 := Aside0.mk (Kd.R_lower (Kd.R_new' (Kd.R_new' ho1 (Kd.R_lt (by exact (Kd.R_mono (Kd.R_far (p := ⟨gb436, 1, none⟩) (Kd.R_far (p := ⟨gb436, 0, none⟩) (Kd.R_types HO431.out BK436.out (by decide)) (fun _ hk => hk.2) (.slice Ao8 t429.length co8)) (fun _ hk => hk.2) (.slice Ao10 t432.length co10)) (fun _ h_ => h_.1))))) (Kd.R_lt (by exact (Kd.R_mono (Kd.R_far (p := ⟨gb436, 1, none⟩) (Kd.R_far (p := ⟨gb436, 0, none⟩) (Kd.R_types HO434.out BK436.out (by decide)) (fun _ hk => hk.2) (.slice Ao8 t429.length co8)) (fun _ hk => hk.2) (.slice Ao10 t432.length co10)) (fun _ h_ => h_.1))))) (below_size (by repeat (first | (with_reducible first | exact HB.out | refine below_set ?_ GE436.out))))); replace HO431 := Aside0.mk (Kd.R_mono (Kd.R_told (Kd.R_told (Kd.R_old (by exact (Kd.R_mono (Kd.R_far (p := ⟨gb436, 1, none⟩) (Kd.R_far (p := ⟨gb436, 0, none⟩) (Kd.R_types HO431.out BK436.out (by decide)) (fun _ hk => hk.2) (.slice Ao8 t429.length co8)) (fun _ hk => hk.2) (.slice Ao10 t432.length co10)) (fun _ h_ => h_.1))) hb) (Kd.R_base ho0)) (Kd.R_base ho1)) (fun _ h_ => h_.1)); replace HO434 := Aside0.mk (Kd.R_mono (Kd.R_told (Kd.R_told (Kd.R_old (by exact (Kd.R_mono (Kd.R_far (p := ⟨gb436, 1, none⟩) (Kd.R_far (p := ⟨gb436, 0, none⟩) (Kd.R_types HO434.out BK436.out (by decide)) (fun _ hk => hk.2) (.slice Ao8 t429.length co8)) (fun _ hk => hk.2) (.slice Ao10 t432.length co10)) (fun _ h_ => h_.1))) hb) (Kd.R_base ho0)) (Kd.R_base ho1)) (fun _ h_ => h_.1)); replace BK436 := Aside0.mk (blk_below (g := gb436) (o := .cells #[.slice Ao8 t429.length co8, .slice Ao10 t432.length co10] 60 (0, 0)) (by refine blk_put (cs := #[.slice Ao8 t429.length co8, .slice none 0 0]) ?_ 1 _ rfl; refine blk_put (cs := #[.slice none 0 0, .slice none 0 0]) ?_ 0 _ rfl; exact BK436.out) hb); replace HB := Aside0.mk (below_step (by repeat (first | (with_reducible first | exact HB.out | refine below_set ?_ GE436.out))) hb); (try clear hb); (try clear ho0); (try clear ho1)) | ((with_reducible refine gate_dst (N := 8) rfl ?_); refine box_event ?hg (N := 8) ?hd (cs := #[.slice none 0 0, .slice none 0 0]) (t := 60) ?hr ?_; (case hd => rfl); (case hg => rfl); (case hr => first | (go_simp; done)); intro gb444 hg w12 hbox hb; replace HO431 := Aside0.mk (Kd.R_below HO431.out hb); replace HO434 := Aside0.mk (Kd.R_below HO434.out hb); replace HO439 := Aside0.mk (Kd.R_below HO439.out hb); replace HO442 := Aside0.mk (Kd.R_below HO442.out hb); have BK444 := Aside0.mk hbox; have GW444 := Aside0.mk ((by rw [hg]; exact (below_size HB.out) : w.heap.size ≤ gb444)); have GE444 := Aside0.mk ((by rw [hg]; exact (below_size HB.out) : w.heap.size ≤ gb444)); replace HB := Aside0.mk (below_step HB.out hb); have NB436_444 := Aside0.mk ((by rw [hg]; exact Nat.ne_of_lt (blk_lt (g := gb436) (o := .cells #[.slice Ao8 t429.length co8, .slice Ao10 t432.length co10] 60 (0, 0)) BK436.out) : gb436 ≠ gb444)); have NB444_436 := Aside0.mk ((by rw [hg]; exact Nat.ne_of_gt (blk_lt (g := gb436) (o := .cells #[.slice Ao8 t429.length co8, .slice Ao10 t432.length co10] 60 (0, 0)) BK436.out) : gb444 ≠ gb436)); replace BK436 := Aside0.mk (blk_below (g := gb436) (o := .cells #[.slice Ao8 t429.length co8, .slice Ao10 t432.length co10] 60 (0, 0)) BK436.out hb); clear hb hbox hg; obtain ⟨Ao13, co13, eo13⟩ := Kd.R_slice HO439.out; subst eo13; have hnb14 := NB444_436.out; have hnc14 := NB436_444.out; have hcz15_0 : w12.cell? ⟨gb444, 0, none⟩ = some (.slice none 0 0) := (blk_cell BK444.out 0).trans rfl; have hcz15_1 : w12.cell? ⟨gb444, 1, none⟩ = some (.slice none 0 0) := (blk_cell BK444.out 1).trans rfl; have hfz15_0 := blk_frozen BK444.out 0; have hfz15_1 := blk_frozen BK444.out 1; obtain ⟨Ao16, co16, eo16⟩ := Kd.R_slice HO442.out; subst eo16))
 go_cut [25] (fun v25 wc => ∃ (kq : Nat) (x25_4 : Bool), v25 = .bool x25_4 ∧ Aside0 (impl_SumOf.j0 kq x25_4 t429 t432 t437 t440 = some (r1, r2)) ∧ Aside0 (kq ≤ k) ∧ Aside0 (Kd.R Kd.bool 4 wc w.heap.size (fun k_ => some k_ ≠ ((.slice Ao10 t432.length co10) : Value).ownBlock ∧ some k_ ≠ ((.slice Ao13 t437.length co13) : Value).ownBlock ∧ some k_ ≠ ((.slice Ao16 t440.length co16) : Value).ownBlock) (.slice Ao8 t429.length co8) t429) ∧ Aside0 (Kd.R Kd.bool 4 wc w.heap.size (fun k_ => some k_ ≠ ((.slice Ao8 t429.length co8) : Value).ownBlock ∧ some k_ ≠ ((.slice Ao13 t437.length co13) : Value).ownBlock ∧ some k_ ≠ ((.slice Ao16 t440.length co16) : Value).ownBlock) (.slice Ao10 t432.length co10) t432) ∧ Aside0 (Kd.R Kd.bool 4 wc w.heap.size (fun k_ => some k_ ≠ ((.slice Ao8 t429.length co8) : Value).ownBlock ∧ some k_ ≠ ((.slice Ao10 t432.length co10) : Value).ownBlock ∧ some k_ ≠ ((.slice Ao16 t440.length co16) : Value).ownBlock) (.slice Ao13 t437.length co13) t437) ∧ Aside0 (Kd.R Kd.bool 4 wc w.heap.size (fun k_ => some k_ ≠ ((.slice Ao8 t429.length co8) : Value).ownBlock ∧ some k_ ≠ ((.slice Ao10 t432.length co10) : Value).ownBlock ∧ some k_ ≠ ((.slice Ao13 t437.length co13) : Value).ownBlock) (.slice Ao16 t440.length co16) t440) ∧ Aside0 (wc.heap[gb436]? = some (.cells #[(.slice Ao8 t429.length co8), (.slice Ao10 t432.length co10)] 60 (0, 0))) ∧ Aside0 (wc.heap[gb444]? = some (.cells #[(.slice Ao13 t437.length co13), (.slice Ao16 t440.length co16)] 60 (0, 0))) ∧ Aside0 (Below w.heap.size w wc))
 case first =>
  have H := HC5.out
  clear HC5
  by_cases c17 : t435 = true
  ·subst c17
   replace H : (impl_SumOf.j0 k (!t443) t429 t432 t437 t440) = some (r1, r2) := by rw [if_pos rfl] at H; exact H
   have H' := Aside0.mk H
   clear H
   go_wp2
   go_meet
   case rel => exact ⟨_, (!t443), (by rfl), H', ⟨by omega⟩, ⟨by exact Kd.R_mono (Kd.R_far (p := ⟨gb444, 1, none⟩) (Kd.R_far (p := ⟨gb444, 0, none⟩) (Kd.R_types HO431.out BK444.out (by decide)) (fun _ hk => hk.2) (.slice Ao13 t437.length co13)) (fun _ hk => hk.2) (.slice Ao16 t440.length co16)) (fun _ hk => ⟨hk.1.1.1, ⟨hk.1.1.2, hk.1.2⟩⟩)⟩, ⟨by exact Kd.R_mono (Kd.R_far (p := ⟨gb444, 1, none⟩) (Kd.R_far (p := ⟨gb444, 0, none⟩) (Kd.R_types HO434.out BK444.out (by decide)) (fun _ hk => hk.2) (.slice Ao13 t437.length co13)) (fun _ hk => hk.2) (.slice Ao16 t440.length co16)) (fun _ hk => ⟨hk.1.1.1, ⟨hk.1.1.2, hk.1.2⟩⟩)⟩, ⟨by exact Kd.R_mono (Kd.R_far (p := ⟨gb444, 1, none⟩) (Kd.R_far (p := ⟨gb444, 0, none⟩) (Kd.R_types HO439.out BK444.out (by decide)) (fun _ hk => hk.2) (.slice Ao13 t437.length co13)) (fun _ hk => hk.2) (.slice Ao16 t440.length co16)) (fun _ hk => ⟨hk.1.1.2, ⟨hk.1.2, hk.1.1.1⟩⟩)⟩, ⟨by exact Kd.R_mono (Kd.R_far (p := ⟨gb444, 1, none⟩) (Kd.R_far (p := ⟨gb444, 0, none⟩) (Kd.R_types HO442.out BK444.out (by decide)) (fun _ hk => hk.2) (.slice Ao13 t437.length co13)) (fun _ hk => hk.2) (.slice Ao16 t440.length co16)) (fun _ hk => ⟨hk.1.1.2, ⟨hk.1.2, hk.1.1.1⟩⟩)⟩, ⟨by refine blk_far ?_ NB436_444.out _; refine blk_far ?_ NB436_444.out _; exact BK436.out⟩, ⟨by refine blk_put (cs := #[.slice Ao13 t437.length co13, .slice none 0 0]) ?_ 1 _ rfl; refine blk_put (cs := #[.slice none 0 0, .slice none 0 0]) ?_ 0 _ rfl; exact BK444.out⟩, ⟨by repeat (first | (with_reducible first | exact HB.out | refine below_set ?_ GE444.out))⟩⟩
  ·replace c17 := Bool.eq_false_iff.mpr c17
   subst c17
   replace H : (impl_SumOf.j0 k true t429 t432 t437 t440) = some (r1, r2) := by rw [if_neg (show ¬ (false = true) by decide)] at H; exact H
   have H' := Aside0.mk H
   clear H
   go_wp2
   go_meet
   case rel => exact ⟨_, (true), (by rfl), H', ⟨by omega⟩, ⟨by exact Kd.R_mono (Kd.R_far (p := ⟨gb444, 1, none⟩) (Kd.R_far (p := ⟨gb444, 0, none⟩) (Kd.R_types HO431.out BK444.out (by decide)) (fun _ hk => hk.2) (.slice Ao13 t437.length co13)) (fun _ hk => hk.2) (.slice Ao16 t440.length co16)) (fun _ hk => ⟨hk.1.1.1, ⟨hk.1.1.2, hk.1.2⟩⟩)⟩, ⟨by exact Kd.R_mono (Kd.R_far (p := ⟨gb444, 1, none⟩) (Kd.R_far (p := ⟨gb444, 0, none⟩) (Kd.R_types HO434.out BK444.out (by decide)) (fun _ hk => hk.2) (.slice Ao13 t437.length co13)) (fun _ hk => hk.2) (.slice Ao16 t440.length co16)) (fun _ hk => ⟨hk.1.1.1, ⟨hk.1.1.2, hk.1.2⟩⟩)⟩, ⟨by exact Kd.R_mono (Kd.R_far (p := ⟨gb444, 1, none⟩) (Kd.R_far (p := ⟨gb444, 0, none⟩) (Kd.R_types HO439.out BK444.out (by decide)) (fun _ hk => hk.2) (.slice Ao13 t437.length co13)) (fun _ hk => hk.2) (.slice Ao16 t440.length co16)) (fun _ hk => ⟨hk.1.1.2, ⟨hk.1.2, hk.1.1.1⟩⟩)⟩, ⟨by exact Kd.R_mono (Kd.R_far (p := ⟨gb444, 1, none⟩) (Kd.R_far (p := ⟨gb444, 0, none⟩) (Kd.R_types HO442.out BK444.out (by decide)) (fun _ hk => hk.2) (.slice Ao13 t437.length co13)) (fun _ hk => hk.2) (.slice Ao16 t440.length co16)) (fun _ hk => ⟨hk.1.1.2, ⟨hk.1.2, hk.1.1.1⟩⟩)⟩, ⟨by refine blk_far ?_ NB436_444.out _; refine blk_far ?_ NB436_444.out _; exact BK436.out⟩, ⟨by refine blk_put (cs := #[.slice Ao13 t437.length co13, .slice none 0 0]) ?_ 1 _ rfl; refine blk_put (cs := #[.slice none 0 0, .slice none 0 0]) ?_ 0 _ rfl; exact BK444.out⟩, ⟨by repeat (first | (with_reducible first | exact HB.out | refine below_set ?_ GE444.out))⟩⟩
 case rest =>
  clear HC5
  try clear hcz15_0
  try clear hcz15_1
  try clear hcz9_0
  try clear hcz9_1
  try clear hfz15_0
  try clear hfz15_1
  try clear hfz9_0
  try clear hfz9_1
  obtain ⟨kq, x25_4, rfl, HA, HJ4, HO_437000, HO_437001, HO_445000, HO_445001, BK436, BK444, HB⟩ := hcut
  cases kq with
  | zero => exact absurd HA.out (by simp [impl_SumOf.j0])
  | succ kj4 =>
   have H := HA.out
   clear HA
   simp only [impl_SumOf.j0] at H
   by_cases c18 : x25_4 = true
   ·subst c18
    replace H : (some ((⟨#[]⟩ : ByteArray), false)) = some (r1, r2) := by rw [if_pos rfl] at H; exact H
    simp only [Option.some.injEq, Prod.mk.injEq] at H
    obtain ⟨rfl, rfl⟩ := H
    go_wp2
    go_ret2
    exact ⟨by first | rfl | (simp [*, errW_none, errW_some] <;> rfl), HB.out⟩
   ·replace c18 := Bool.eq_false_iff.mpr c18
    subst c18
    replace H : ((impl_lcm.f kj4 (t432.length : Int) (t440.length : Int)).bind fun t445 => ((impl_made.f kj4 200 t445 (fun n_ => impl_sums.f kj4 t429 t432 t437 t440 n_)).bind fun bt446 => (some (bt446.1, bt446.2)))) = some (r1, r2) := by rw [if_neg (show ¬ (false = true) by decide)] at H; exact H
    replace H := Option.bind_eq_some_iff.mp H
    obtain ⟨t445, A190, H⟩ := H
    replace H : ((impl_made.f kj4 200 t445 (fun n_ => impl_sums.f kj4 t429 t432 t437 t440 n_)).bind fun bt446 => (some (bt446.1, bt446.2))) = some (r1, r2) := H
    have A19 := Aside0.mk A190
    clear A190
    replace H := Option.bind_eq_some_iff.mp H
    obtain ⟨⟨t446, t447⟩, A200, H⟩ := H
    replace H : (some (t446, t447)) = some (r1, r2) := H
    have A20 := Aside0.mk A200
    clear A200
    simp only [Option.some.injEq, Prod.mk.injEq] at H
    obtain ⟨rfl, rfl⟩ := H
    have hnb21 := NB436_444.out
    have hnc21 := NB444_436.out
    have hcz22_0 : wc.cell? ⟨gb436, 0, none⟩ = some (.slice Ao8 t429.length co8) := (blk_cell BK436.out 0).trans rfl
    have hcz22_1 : wc.cell? ⟨gb436, 1, none⟩ = some (.slice Ao10 t432.length co10) := (blk_cell BK436.out 1).trans rfl
    have hfz22_0 := blk_frozen BK436.out 0
    have hfz22_1 := blk_frozen BK436.out 1
    have hcz23_0 : wc.cell? ⟨gb444, 0, none⟩ = some (.slice Ao13 t437.length co13) := (blk_cell BK444.out 0).trans rfl
    have hcz23_1 : wc.cell? ⟨gb444, 1, none⟩ = some (.slice Ao16 t440.length co16) := (blk_cell BK444.out 1).trans rfl
    have hfz23_0 := blk_frozen BK444.out 0
    have hfz23_1 := blk_frozen BK444.out 1
    go_wp2_with (first | ((with_reducible refine gate_callee (f := 86) rfl ?_); refine goesL_ (some 32) rfl rfl Try.func86 (by kernel_rfl) rfl #[.int .i64 (t432.length : Int), .int .i64 (t440.length : Int)] rfl (by (try simp only [List.map_toArray, List.map_cons, List.map_nil]); rfl) ?_; (with_reducible refine (impl_lcm.calls kj4 (t432.length : Int) (t440.length : Int) t445 _ A19.out).mono ?_); rintro e w' ⟨rfl, ⟨nd, rfl⟩⟩; refine ⟨_, rfl, ?_⟩) | ((with_reducible refine gate_callee (f := 79) rfl ?_); refine goesL_ (some 34) rfl rfl Try.func79 (by kernel_rfl) rfl #[.int .i64 200, .int .i64 t445, .func (.func 87) #[] #[.pointer (some ⟨gb436, 0, none⟩), .pointer (some ⟨gb444, 0, none⟩)]] rfl (by (try simp only [List.map_toArray, List.map_cons, List.map_nil]); rfl) ?_; refine (impl_made.calls kj4 200 t445 (fun n_ => impl_sums.f kj4 t429 t432 t437 t440 n_) 87 #[.pointer (some ⟨gb436, 0, none⟩), .pointer (some ⟨gb444, 0, none⟩)] t446 t447 _ (fun args_ w_ => enters_ Try.func87 (by kernel_rfl) rfl args_ w_) ?hpx A20.out).mono ?_; (case hpx => intro n_ b_ W_ hW_ hb_; refine impl_SumOf.lit kj4 gb436 gb444 Ao8 co8 t429 Ao10 co10 t432 Ao13 co13 t437 Ao16 co16 t440 n_ b_ W_ (blk_below (by (with_reducible repeat (refine blk_drewN ?_ _)); exact BK436.out) hW_) (blk_below (by (with_reducible repeat (refine blk_drewN ?_ _)); exact BK444.out) hW_) ?q0 ?q1 ?q2 ?q3 ?q4 ?q5 ?q6 ?q7 hb_; all_goals (first | exact Kd.C_below (by repeat (first | exact (Kd.R_reads' HO_437000.out).2.2 | exact (Kd.R_reads' HO_437001.out).2.2 | exact (Kd.R_reads' HO_445000.out).2.2 | exact (Kd.R_reads' HO_445001.out).2.2)) hW_ | exact (Kd.R_reads' HO_437000.out).2.1 | exact (Kd.R_reads' HO_437001.out).2.1 | exact (Kd.R_reads' HO_445000.out).2.1 | exact (Kd.R_reads' HO_445001.out).2.1)); rintro e w24 ⟨rfl, hb⟩; refine ⟨_, rfl, ?_⟩; replace HO_437000 := Aside0.mk (Kd.R_below (by (with_reducible repeat (apply Kd.R_drewN)); exact HO_437000.out) hb); replace HO_437001 := Aside0.mk (Kd.R_below (by (with_reducible repeat (apply Kd.R_drewN)); exact HO_437001.out) hb); replace HO_445000 := Aside0.mk (Kd.R_below (by (with_reducible repeat (apply Kd.R_drewN)); exact HO_445000.out) hb); replace HO_445001 := Aside0.mk (Kd.R_below (by (with_reducible repeat (apply Kd.R_drewN)); exact HO_445001.out) hb); replace BK436 := Aside0.mk (blk_below (g := gb436) (o := .cells #[.slice Ao8 t429.length co8, .slice Ao10 t432.length co10] 60 (0, 0)) (by (with_reducible repeat (refine blk_drewN ?_ _)); exact BK436.out) hb); replace BK444 := Aside0.mk (blk_below (g := gb444) (o := .cells #[.slice Ao13 t437.length co13, .slice Ao16 t440.length co16] 60 (0, 0)) (by (with_reducible repeat (refine blk_drewN ?_ _)); exact BK444.out) hb); replace HB := Aside0.mk (below_step (by repeat (first | (with_reducible first | exact HB.out | apply pw_below_drewN))) hb); (try clear hb)))
    go_ret2
    exact ⟨by first | rfl | (simp [*, errW_none, errW_some] <;> rfl), HB.out⟩

end Go.Proofs.Ytpkpgdlbgcjloaa.Q

namespace Go.Proofs.Ytpkpgdlbgcjloaa.Q
open Go.RowKit Go.Proofs.YtpkpgdlbgcjloaaW.PrintWords Go.Proofs.YtpkpgdlbgcjloaaW.PrintLast Go.Proofs.YtpkpgdlbgcjloaaW.PrintMore
attribute [local go_sem] max2_int min2_int max_two min_two max_three min_three max_four min_four   -- for this text's walks alone
set_option linter.unusedVariables false
set_option linter.unusedSimpArgs false

end Go.Proofs.Ytpkpgdlbgcjloaa.Q

namespace Go.Proofs.Ytpkpgdlbgcjloaa.Q
open Go.RowKit Go.Proofs.YtpkpgdlbgcjloaaW.PrintWords Go.Proofs.YtpkpgdlbgcjloaaW.PrintLast Go.Proofs.YtpkpgdlbgcjloaaW.PrintMore
attribute [local go_sem] max2_int min2_int max_two min_two max_three min_three max_four min_four   -- for this text's walks alone
set_option linter.unusedVariables false
set_option linter.unusedSimpArgs false

end Go.Proofs.Ytpkpgdlbgcjloaa.Q

namespace Go.Proofs.Ytpkpgdlbgcjloaa.Q
open Go.RowKit Go.Proofs.YtpkpgdlbgcjloaaW.PrintWords Go.Proofs.YtpkpgdlbgcjloaaW.PrintLast Go.Proofs.YtpkpgdlbgcjloaaW.PrintMore
attribute [local go_sem] max2_int min2_int max_two min_two max_three min_three max_four min_four   -- for this text's walks alone
set_option linter.unusedVariables false
set_option linter.unusedSimpArgs false

end Go.Proofs.Ytpkpgdlbgcjloaa.Q

namespace Go.Proofs.Ytpkpgdlbgcjloaa.Q
open Go.RowKit Go.Proofs.YtpkpgdlbgcjloaaW.PrintWords Go.Proofs.YtpkpgdlbgcjloaaW.PrintLast Go.Proofs.YtpkpgdlbgcjloaaW.PrintMore
attribute [local go_sem] max2_int min2_int max_two min_two max_three min_three max_four min_four   -- for this text's walks alone
set_option linter.unusedVariables false
set_option linter.unusedSimpArgs false

end Go.Proofs.Ytpkpgdlbgcjloaa.Q

namespace Go.Proofs.Ytpkpgdlbgcjloaa.Q
open Go.RowKit Go.Proofs.YtpkpgdlbgcjloaaW.PrintWords Go.Proofs.YtpkpgdlbgcjloaaW.PrintLast Go.Proofs.YtpkpgdlbgcjloaaW.PrintMore
attribute [local go_sem] max2_int min2_int max_two min_two max_three min_three max_four min_four   -- for this text's walks alone
set_option linter.unusedVariables false
set_option linter.unusedSimpArgs false

end Go.Proofs.Ytpkpgdlbgcjloaa.Q

namespace Go.Proofs.Ytpkpgdlbgcjloaa.Q
open Go.RowKit Go.Proofs.YtpkpgdlbgcjloaaW.PrintWords Go.Proofs.YtpkpgdlbgcjloaaW.PrintLast Go.Proofs.YtpkpgdlbgcjloaaW.PrintMore
attribute [local go_sem] max2_int min2_int max_two min_two max_three min_three max_four min_four   -- for this text's walks alone
set_option linter.unusedVariables false
set_option linter.unusedSimpArgs false

end Go.Proofs.Ytpkpgdlbgcjloaa.Q

namespace Go.Proofs.Ytpkpgdlbgcjloaa.Q
open Go.RowKit Go.Proofs.YtpkpgdlbgcjloaaW.PrintWords Go.Proofs.YtpkpgdlbgcjloaaW.PrintLast Go.Proofs.YtpkpgdlbgcjloaaW.PrintMore
attribute [local go_sem] max2_int min2_int max_two min_two max_three min_three max_four min_four   -- for this text's walks alone
set_option linter.unusedVariables false
set_option linter.unusedSimpArgs false

end Go.Proofs.Ytpkpgdlbgcjloaa.Q

namespace Go.Proofs.Ytpkpgdlbgcjloaa.Q
open Go.RowKit Go.Proofs.YtpkpgdlbgcjloaaW.PrintWords Go.Proofs.YtpkpgdlbgcjloaaW.PrintLast Go.Proofs.YtpkpgdlbgcjloaaW.PrintMore
attribute [local go_sem] max2_int min2_int max_two min_two max_three min_three max_four min_four   -- for this text's walks alone
set_option linter.unusedVariables false
set_option linter.unusedSimpArgs false

end Go.Proofs.Ytpkpgdlbgcjloaa.Q

namespace Go.Proofs.Ytpkpgdlbgcjloaa.Q
open Go.RowKit Go.Proofs.YtpkpgdlbgcjloaaW.PrintWords Go.Proofs.YtpkpgdlbgcjloaaW.PrintLast Go.Proofs.YtpkpgdlbgcjloaaW.PrintMore
attribute [local go_sem] max2_int min2_int max_two min_two max_three min_three max_four min_four   -- for this text's walks alone
set_option linter.unusedVariables false
set_option linter.unusedSimpArgs false

end Go.Proofs.Ytpkpgdlbgcjloaa.Q

namespace Go.Proofs.Ytpkpgdlbgcjloaa.Q
open Go.RowKit Go.Proofs.YtpkpgdlbgcjloaaW.PrintWords Go.Proofs.YtpkpgdlbgcjloaaW.PrintLast Go.Proofs.YtpkpgdlbgcjloaaW.PrintMore
attribute [local go_sem] max2_int min2_int max_two min_two max_three min_three max_four min_four   -- for this text's walks alone
set_option linter.unusedVariables false
set_option linter.unusedSimpArgs false
def spec_l4Whole.f (k : Nat) (l0_0 : List Bool) (l0_1 : List Bool) : Option (ByteArray × Bool) := (spec_l4Least.f k l0_0 l0_1).bind fun t538 => (if t538 = 0 then (some ((⟨#[49, 40, 48, 41]⟩ : ByteArray), true)) else ((spec_l4Star.f k l0_0 l0_1 (wrap64 (2400 + t538))).bind fun t539 => ((spec_l2Fill.f k t539 2400).bind fun bt542 => (some (bt542.1, bt542.2)))))

def spec_StarOf.f (k : Nat) (a0 : ByteArray) : Option (ByteArray × Bool) := (spec_l4Small.f k a0).bind fun bt544 => (if bt544.2.2 = true then ((spec_l4Whole.f k bt544.1 bt544.2.1).bind fun bt552 => (some (bt552.1, bt552.2))) else (some ((⟨#[]⟩ : ByteArray), false)))
end Go.Proofs.Ytpkpgdlbgcjloaa.Q

namespace Go.Proofs.Ytpkpgdlbgcjloaa.Q
open Go.RowKit Go.Proofs.YtpkpgdlbgcjloaaW.PrintWords Go.Proofs.YtpkpgdlbgcjloaaW.PrintLast Go.Proofs.YtpkpgdlbgcjloaaW.PrintMore
attribute [local go_sem] max2_int min2_int max_two min_two max_three min_three max_four min_four   -- for this text's walks alone
set_option linter.unusedVariables false
set_option linter.unusedSimpArgs false

end Go.Proofs.Ytpkpgdlbgcjloaa.Q

namespace Go.Proofs.Ytpkpgdlbgcjloaa.Q
open Go.RowKit Go.Proofs.YtpkpgdlbgcjloaaW.PrintWords Go.Proofs.YtpkpgdlbgcjloaaW.PrintLast Go.Proofs.YtpkpgdlbgcjloaaW.PrintMore
attribute [local go_sem] max2_int min2_int max_two min_two max_three min_three max_four min_four   -- for this text's walks alone
set_option linter.unusedVariables false
set_option linter.unusedSimpArgs false

end Go.Proofs.Ytpkpgdlbgcjloaa.Q

namespace Go.Proofs.Ytpkpgdlbgcjloaa.Q
open Go.RowKit Go.Proofs.YtpkpgdlbgcjloaaW.PrintWords Go.Proofs.YtpkpgdlbgcjloaaW.PrintLast Go.Proofs.YtpkpgdlbgcjloaaW.PrintMore
attribute [local go_sem] max2_int min2_int max_two min_two max_three min_three max_four min_four   -- for this text's walks alone
set_option linter.unusedVariables false
set_option linter.unusedSimpArgs false

end Go.Proofs.Ytpkpgdlbgcjloaa.Q

namespace Go.Proofs.Ytpkpgdlbgcjloaa.Q
open Go.RowKit Go.Proofs.YtpkpgdlbgcjloaaW.PrintWords Go.Proofs.YtpkpgdlbgcjloaaW.PrintLast Go.Proofs.YtpkpgdlbgcjloaaW.PrintMore
attribute [local go_sem] max2_int min2_int max_two min_two max_three min_three max_four min_four   -- for this text's walks alone
set_option linter.unusedVariables false
set_option linter.unusedSimpArgs false

end Go.Proofs.Ytpkpgdlbgcjloaa.Q

namespace Go.Proofs.Ytpkpgdlbgcjloaa.Q
open Go.RowKit Go.Proofs.YtpkpgdlbgcjloaaW.PrintWords Go.Proofs.YtpkpgdlbgcjloaaW.PrintLast Go.Proofs.YtpkpgdlbgcjloaaW.PrintMore
attribute [local go_sem] max2_int min2_int max_two min_two max_three min_three max_four min_four   -- for this text's walks alone
set_option linter.unusedVariables false
set_option linter.unusedSimpArgs false

end Go.Proofs.Ytpkpgdlbgcjloaa.Q

namespace Go.Proofs.Ytpkpgdlbgcjloaa.Q
open Go.RowKit Go.Proofs.YtpkpgdlbgcjloaaW.PrintWords Go.Proofs.YtpkpgdlbgcjloaaW.PrintLast Go.Proofs.YtpkpgdlbgcjloaaW.PrintMore
attribute [local go_sem] max2_int min2_int max_two min_two max_three min_three max_four min_four   -- for this text's walks alone
set_option linter.unusedVariables false
set_option linter.unusedSimpArgs false

end Go.Proofs.Ytpkpgdlbgcjloaa.Q

namespace Go.Proofs.Ytpkpgdlbgcjloaa.Q
open Go.RowKit Go.Proofs.YtpkpgdlbgcjloaaW.PrintWords Go.Proofs.YtpkpgdlbgcjloaaW.PrintLast Go.Proofs.YtpkpgdlbgcjloaaW.PrintMore
attribute [local go_sem] max2_int min2_int max_two min_two max_three min_three max_four min_four   -- for this text's walks alone
set_option linter.unusedVariables false
set_option linter.unusedSimpArgs false

end Go.Proofs.Ytpkpgdlbgcjloaa.Q

namespace Go.Proofs.Ytpkpgdlbgcjloaa.Q
open Go.RowKit Go.Proofs.YtpkpgdlbgcjloaaW.PrintWords Go.Proofs.YtpkpgdlbgcjloaaW.PrintLast Go.Proofs.YtpkpgdlbgcjloaaW.PrintMore
attribute [local go_sem] max2_int min2_int max_two min_two max_three min_three max_four min_four   -- for this text's walks alone
set_option linter.unusedVariables false
set_option linter.unusedSimpArgs false

end Go.Proofs.Ytpkpgdlbgcjloaa.Q

namespace Go.Proofs.Ytpkpgdlbgcjloaa.Q
open Go.RowKit Go.Proofs.YtpkpgdlbgcjloaaW.PrintWords Go.Proofs.YtpkpgdlbgcjloaaW.PrintLast Go.Proofs.YtpkpgdlbgcjloaaW.PrintMore
attribute [local go_sem] max2_int min2_int max_two min_two max_three min_three max_four min_four   -- for this text's walks alone
set_option linter.unusedVariables false
set_option linter.unusedSimpArgs false

end Go.Proofs.Ytpkpgdlbgcjloaa.Q

namespace Go.Proofs.Ytpkpgdlbgcjloaa.Q
open Go.RowKit Go.Proofs.YtpkpgdlbgcjloaaW.PrintWords Go.Proofs.YtpkpgdlbgcjloaaW.PrintLast Go.Proofs.YtpkpgdlbgcjloaaW.PrintMore
attribute [local go_sem] max2_int min2_int max_two min_two max_three min_three max_four min_four   -- for this text's walks alone
set_option linter.unusedVariables false
set_option linter.unusedSimpArgs false

end Go.Proofs.Ytpkpgdlbgcjloaa.Q

namespace Go.Proofs.Ytpkpgdlbgcjloaa.Q
open Go.RowKit Go.Proofs.YtpkpgdlbgcjloaaW.PrintWords Go.Proofs.YtpkpgdlbgcjloaaW.PrintLast Go.Proofs.YtpkpgdlbgcjloaaW.PrintMore
open Go.Proofs.Ytpkpgdlbgcjloaa.Pl (hasB)
set_option linter.unusedVariables false
set_option linter.unusedSimpArgs false
theorem wr {x : Int} (h0 : -9223372036854775808 ≤ x) (h1 : x ≤ 9223372036854775807) : wrap64 x = x := by unfold wrap64; omega
theorem Ev.eq {α : Type} {g f : Nat → Option α} {r : α} (h : g = f) (k : Ev f r) : Ev g r := h ▸ k
theorem Ev.end {α : Type} {g : Nat → Option α} {r : α} (h : ∀ k, g (k + 1) = some r) : Ev g r := ⟨1, fun k hk => by obtain ⟨m, rfl⟩ : ∃ m, k = m + 1 := ⟨k - 1, by omega⟩; exact h m⟩
theorem Ev.const {α : Type} {g : Nat → Option α} {r : α} (h : ∀ k, g k = some r) : Ev g r := ⟨0, fun k _ => h k⟩
theorem Ev.unique {α : Type} {g : Nat → Option α} {r q : α} (h : Ev g r) (k : Ev g q) : r = q := by
  obtain ⟨a, ha⟩ := h
  obtain ⟨b, hb⟩ := k
  have h1 := ha (max a b) (Nat.le_max_left _ _)
  rw [hb (max a b) (Nat.le_max_right _ _)] at h1
  exact (Option.some.inj h1).symm

theorem bt_list (s : ByteArray) (i : Nat) (h : i < s.size) : bt s (i : Int) = ((s.data.toList.getD i 0).toNat : Int) := by
  unfold bt
  rw [dif_pos (by simpa using h)]
  have : s.data.toList.length = s.size := Array.length_toList
  simp [List.getD, h, this]
  rfl
theorem bt_is (s : ByteArray) (i : Nat) (h : i < s.size) (c : UInt8) (n : Int) (hn : n = (c.toNat : Int)) : bt s (i : Int) = n ↔ s.data.toList.getD i 0 = c := by
  rw [bt_list s i h, hn]
  constructor
  · intro h
    exact UInt8.toNat_inj.1 (by exact_mod_cast h)
  · intro h
    rw [h]
theorem drop_getD {α : Type} (l : List α) (i : Nat) (z : α) (h : i < l.length) : l.drop i = l.getD i z :: l.drop (i + 1) := by
  rw [List.drop_eq_getElem_cons h]; simp [List.getD, h]

def okL (l : List UInt8) : Bool := l.all fun c => c == 48 || c == 49
theorem signs_l0 (s : ByteArray) (hs : s.size ≤ 1073741824) (d : Nat) : ∀ (i : Nat) (acc : List Bool), i + d = s.size → acc.length = i →
    Ev (fun k => spec_l1Signs.l0 k s acc i) (if okL (s.data.toList.drop i) then (acc ++ (s.data.toList.drop i).map (· == 49), true) else ([], false)) := by
  have hl : s.data.toList.length = s.size := Array.length_toList
  induction d with
  | zero =>
    intro i acc h1 h2
    refine Ev.end fun k => ?_
    simp only [spec_l1Signs.l0]
    rw [if_neg (by omega), List.drop_of_length_le (by omega)]
    simp [okL]
  | succ d ih =>
    intro i acc h1 h2
    rw [drop_getD _ i 0 (by omega)]
    have hb48 := bt_is s i (by omega) 48 48 rfl
    have hb49 := bt_is s i (by omega) 49 49 rfl
    have hw : wrap64 ((i : Int) + 1) = ((i + 1 : Nat) : Int) := by rw [wr (by omega) (by omega)]; omega
    by_cases c48 : s.data.toList.getD i 0 = 48
    · refine Ev.step (f := fun k => spec_l1Signs.l0 k s (acc ++ [false]) ((i + 1 : Nat) : Int)) (fun k => ?_) ?_
      · simp only [spec_l1Signs.l0]
        have e : bt s (i : Int) = 48 := hb48.2 c48
        rw [if_pos (by omega), if_pos (by omega), if_pos e, if_pos (by omega), hw, e]
        rfl
      · have := ih (i + 1) (acc ++ [false]) (by omega) (by simp [h2])
        rw [c48]
        simpa [okL] using this
    · by_cases c49 : s.data.toList.getD i 0 = 49
      · refine Ev.step (f := fun k => spec_l1Signs.l0 k s (acc ++ [true]) ((i + 1 : Nat) : Int)) (fun k => ?_) ?_
        · simp only [spec_l1Signs.l0]
          have e : bt s (i : Int) = 49 := hb49.2 c49
          rw [if_pos (by omega), if_pos (by omega), if_neg (fun h => c48 (hb48.1 h)), if_pos e, if_pos (by omega), hw]
        · have := ih (i + 1) (acc ++ [true]) (by omega) (by simp [h2])
          rw [c49]
          simpa [okL] using this
      · refine Ev.end fun k => ?_
        simp only [spec_l1Signs.l0]
        rw [if_pos (by omega), if_pos (by omega), if_neg (fun h => c48 (hb48.1 h)), if_neg (fun h => c49 (hb49.1 h))]
        rw [if_neg]
        simp only [okL, List.all_cons, Bool.and_eq_true, Bool.or_eq_true, beq_iff_eq, not_and]
        intro h
        exact absurd h (by simp only [not_or]; exact ⟨c48, c49⟩)
theorem l1Signs_ev (s : ByteArray) (hs : s.size ≤ 1073741824) : Ev (fun k => spec_l1Signs.f k s) (if okL s.data.toList then (s.data.toList.map (· == 49), true) else ([], false)) := by
  have := signs_l0 s hs s.size 0 [] (by omega) rfl
  simpa [spec_l1Signs.f] using this
theorem signs_ev (s : ByteArray) (hs : s.size ≤ 1073741824) : impl_signs.f s = some (if okL s.data.toList then (s.data.toList.map (· == 49), decide ((s.size : Int) ≤ 60)) else ([], false)) := by
  unfold impl_signs.f
  rw [if_pos (by omega)]
  unfold okL impl_signs.ok
  split <;> rfl

theorem index_cases (l : List UInt8) (c : UInt8) : (Lib.indexByte l c = -1 ∧ ∀ i, i < l.length → l.getD i 0 ≠ c) ∨ ∃ i : Nat, i < l.length ∧ Lib.indexByte l c = i ∧ l.getD i 0 = c ∧ ∀ j, j < i → l.getD j 0 ≠ c := by
  induction l with
  | nil => left; exact ⟨rfl, fun i h => absurd h (Nat.not_lt_zero i)⟩
  | cons b l ih =>
    unfold Lib.indexByte
    by_cases hb : b = c
    · right
      exact ⟨0, by simp, by simp [hb], by simp [hb], fun j h => absurd h (Nat.not_lt_zero j)⟩
    · rw [if_neg (by simpa using hb)]
      rcases ih with ⟨h1, h2⟩ | ⟨i, h1, h2, h3, h4⟩
      · left
        refine ⟨by rw [h1]; rfl, fun i hi => ?_⟩
        cases i with
        | zero => simpa using hb
        | succ i => simpa using h2 i (by simpa using hi)
      · right
        refine ⟨i + 1, by simpa using h1, ?_, by simpa using h3, fun j hj => ?_⟩
        · rw [h2, if_neg (by simp only [beq_iff_eq]; omega)]; omega
        · cases j with
          | zero => simpa using hb
          | succ j => simpa using h4 j (by omega)

structure Good (t r : List Bool) : Prop where
  pos : 0 < r.length
  tl : t.length ≤ 60
  rl : r.length ≤ 60
structure IsSet (s : ByteArray) (t r : List Bool) : Prop where
  good : Good t r
  impl : impl_setOf.f s = some (t, r, true)
  spec : Ev (fun k => spec_l1Read.f k s) (t, r, true)
structure NoSet (s : ByteArray) : Prop where
  impl : ∃ a b, impl_setOf.f s = some (a, b, false)
  spec : ∃ a b, Ev (fun k => spec_l1Read.f k s) (a, b, false)

/-- The reader comes to the first bracket, or to the end. -/
theorem read_l0 (s : ByteArray) (hs : s.size ≤ 1073741824) (a b : List Bool) {r : List Bool × List Bool × Bool} (j : Nat) (hj : j ≤ s.size) (hn : ∀ i, i < j → s.data.toList.getD i 0 ≠ 40) (hend : j < s.size → s.data.toList.getD j 0 = 40)
    (h : Ev (fun k => spec_l1Read.j1 k s j a b) r) (d : Nat) : ∀ i, i + d = j → Ev (fun k => spec_l1Read.l0 k s (i : Nat) a b) r := by
  induction d with
  | zero =>
    intro i hi
    obtain rfl : i = j := by omega
    refine Ev.step (fun k => ?_) h
    simp only [spec_l1Read.l0]
    by_cases c : i < s.size
    · rw [if_pos (by omega), if_pos (by omega), if_pos ((bt_is s i c 40 40 rfl).2 (hend c))]
    · rw [if_neg (by omega)]
  | succ d ih =>
    intro i hi
    refine Ev.step (fun k => ?_) (ih (i + 1) (by omega))
    simp only [spec_l1Read.l0]
    have hw : wrap64 ((i : Int) + 1) = ((i + 1 : Nat) : Int) := by rw [wr (by omega) (by omega)]; omega
    rw [if_pos (by omega), if_pos (by omega), if_neg (fun h => hn i (by omega) ((bt_is s i (by omega) 40 40 rfl).1 h)), hw]

theorem size_data (s : ByteArray) : s.data.toList.length = s.size := Array.length_toList
theorem ext_size (s : ByteArray) (a b : Nat) (hb : b ≤ s.size) : (s.extract a b).size = b - a := by simp; omega
theorem ext_list (s : ByteArray) (a b : Nat) : (s.extract a b).data.toList = (s.data.toList.take b).drop a := by
  simp [List.extract_eq_take_drop, List.drop_take]
theorem toList_eq (s : ByteArray) : s.toList = s.data.toList := (Lib.toList_data s).symm ▸ rfl

theorem last_eq {s : ByteArray} {i : Nat} (h : i + 1 < s.size) : ((s.extract (i + 1) s.size).extract ((s.extract (i + 1) s.size).size - 1) (s.extract (i + 1) s.size).size).toList = [s.data.toList.getD (s.size - 1) 0] := by
  rw [toList_eq, ext_list, ext_list, ext_size _ _ _ (Nat.le_refl _)]
  have hl := size_data s
  rw [List.take_of_length_le (l := s.data.toList) (by omega), List.take_of_length_le (by rw [List.length_drop]; omega), List.drop_drop, drop_getD _ _ 0 (by omega), List.drop_of_length_le (by omega)]
  congr 2
  omega
theorem ring_eq {s : ByteArray} {i : Nat} (h : i + 1 < s.size) : (s.extract (i + 1) s.size).extract 0 ((s.extract (i + 1) s.size).size - 1) = s.extract (i + 1) (s.size - 1) := by
  have : ∀ a b : ByteArray, a.data.toList = b.data.toList → a = b := fun a b h => by
    obtain ⟨⟨a⟩⟩ := a; obtain ⟨⟨b⟩⟩ := b; simp at h; simp [h]
  refine this _ _ ?_
  have hl := size_data s
  rw [ext_list, ext_list, ext_list, ext_size _ _ _ (Nat.le_refl _), List.drop_zero, List.take_of_length_le (l := s.data.toList) (by omega), List.drop_take]
  congr 1
  omega

/-- Each text is a set text for both readers, with the same tail and ring, or for none. -/
theorem read_cases (s : ByteArray) (hs : s.size ≤ 1073741824) : NoSet s ∨ ∃ t r, IsSet s t r := by
  have hl := size_data s
  have hsg := fun (x : ByteArray) (hx : x.size ≤ 1073741824) => signs_ev x hx
  rcases index_cases s.data.toList 40 with ⟨h1, h2⟩ | ⟨i, h1, h2, h3, h4⟩
  · left
    refine ⟨?_, ?_⟩
    · have hc : strings_Cut.f s ⟨#[40]⟩ = some (s, ⟨#[]⟩, false) := by
        unfold strings_Cut.f stringslite_Cut.f stringslite_Index.f
        rw [dif_pos (by rfl)]
        show ((some (Lib.indexByte s.data.toList 40)).bind _).bind _ = _
        rw [h1]
        rfl
      have hd : strings_CutSuffix.f ⟨#[]⟩ ⟨#[41]⟩ = some (⟨#[]⟩, false) := by rfl
      refine ⟨(if okL s.data.toList then (s.data.toList.map (· == 49), decide ((s.size : Int) ≤ 60)) else ([], false)).1, [], ?_⟩
      unfold impl_setOf.f
      rw [hc]; simp only [Option.bind_some]
      rw [hd]; simp only [Option.bind_some]
      rw [hsg s hs, hsg ⟨#[]⟩ (by decide)]
      simp only [Option.bind_some]
      rw [if_neg (by simp)]
      rfl
    · refine ⟨[], [false], ?_⟩
      refine read_l0 s hs [] [false] s.size (Nat.le_refl _) (fun i hi => h2 i (by omega)) (fun h => by omega) ?_ s.size 0 (by omega)
      refine Ev.step (f := fun k => spec_l1Read.j2 k s (s.size : Nat) true [] [false]) (fun k => ?_) (Ev.end fun k => ?_)
      · simp only [spec_l1Read.j1]
        rw [if_pos (by rw [wr (by omega) (by omega)]; omega)]
      · simp only [spec_l1Read.j2, if_true]
  · have hi : i < s.size := by omega
    have hc : strings_Cut.f s ⟨#[40]⟩ = some (s.extract 0 i, s.extract (i + 1) s.size, true) := by
      unfold strings_Cut.f stringslite_Cut.f stringslite_Index.f
      rw [dif_pos (by rfl)]
      show ((some (Lib.indexByte s.data.toList 40)).bind _).bind _ = _
      rw [h2]
      simp only [Option.bind_some]
      have hz : ((⟨#[40]⟩ : ByteArray).size : Int) = 1 := rfl
      rw [if_pos (by omega), if_pos (by omega), if_pos (by omega), hz, wr (by omega) (by omega), if_pos (by omega), if_pos (by omega)]
      simp only [Option.bind_some, Int.toNat_natCast]
      rw [show ((i : Int) + 1).toNat = i + 1 from by omega]
    have hz1 : (s.extract (i + 1) s.size).size = s.size - (i + 1) := ext_size _ _ _ (Nat.le_refl _)
    have h41 : ((⟨#[41]⟩ : ByteArray).size : Int) = 1 := rfl
    have hsuf : strings_CutSuffix.f (s.extract (i + 1) s.size) ⟨#[41]⟩ = some (if i + 1 < s.size ∧ s.data.toList.getD (s.size - 1) 0 = 41 then (s.extract (i + 1) (s.size - 1), true) else (s.extract (i + 1) s.size, false)) := by
      unfold strings_CutSuffix.f stringslite_CutSuffix.f stringslite_HasSuffix.f
      rw [h41]
      by_cases c : i + 1 < s.size
      · rw [if_pos (by omega), wr (by omega) (by omega), if_pos (by omega), if_pos (by omega), show (((s.extract (i + 1) s.size).size : Int) - 1).toNat = (s.extract (i + 1) s.size).size - 1 from by omega, last_eq c, ring_eq c]
        simp only [Option.bind_some]
        have hb : ([s.data.toList.getD (s.size - 1) 0] == (⟨#[41]⟩ : ByteArray).toList) = decide (s.data.toList.getD (s.size - 1) 0 = 41) := by
          rw [toList_eq, Bool.eq_iff_iff]; simp
        rw [hb]
        by_cases e : s.data.toList.getD (s.size - 1) 0 = 41
        · rw [decide_eq_true e, if_pos rfl, if_pos (by omega), if_pos (by omega), if_pos ⟨c, e⟩]; rfl
        · rw [decide_eq_false e, if_neg (by simp), if_neg (by intro h; exact e h.2)]; rfl
      · rw [if_neg (by omega)]
        simp only [Option.bind_some, Bool.false_eq_true, if_false]
        rw [if_neg (fun h => c h.1)]
    have hspec : ∀ (r : List Bool × List Bool × Bool), Ev (fun k => spec_l1Read.j1 k s i [] [false]) r → Ev (fun k => spec_l1Read.f k s) r := by
      intro r hr
      exact read_l0 s hs [] [false] i (by omega) (fun j hj => h4 j hj) (fun _ => h3) hr i 0 (by omega)
    have hnull : ∀ x : Bool, x = true → Ev (fun k => spec_l1Read.j2 k s (i : Nat) x [] [false]) (([] : List Bool), [false], false) := by
      intro x hx
      refine Ev.end fun k => ?_
      simp only [spec_l1Read.j2]
      rw [if_pos hx]
    -- for the reader's bracket at the end
    have hj1 : ∀ r, Ev (fun k => spec_l1Read.j2 k s (i : Nat) (decide (s.size ≤ i + 2) || s.data.toList.getD (s.size - 1) 0 != 41) [] [false]) r → Ev (fun k => spec_l1Read.j1 k s i [] [false]) r := by
      intro r hr
      refine Ev.step (fun k => ?_) hr
      simp only [spec_l1Read.j1]
      rw [wr (x := (i : Int) + 2) (by omega) (by omega), wr (x := (s.size : Int) - 1) (by omega) (by omega)]
      by_cases c : s.size ≤ i + 2
      · rw [if_pos (by omega)]; simp [c]
      · rw [if_neg (by omega), if_pos (by omega), if_pos (by omega)]
        rw [show (s.size : Int) - 1 = ((s.size - 1 : Nat) : Int) from by omega]
        congr 1
        simp only [c, decide_false, Bool.false_or]
        have := bt_is s (s.size - 1) (by omega) 41 41 rfl
        rw [Bool.eq_iff_iff]; simp only [bne_iff_ne, ne_eq, this]
    by_cases c : (i + 2 < s.size) ∧ s.data.toList.getD (s.size - 1) 0 = 41
    · obtain ⟨c1, c2⟩ := c
      rw [if_pos ⟨by omega, c2⟩] at hsuf
      have e1 := hsg (s.extract 0 i) (by rw [ext_size _ _ _ (by omega)]; omega)
      have e2 := hsg (s.extract (i + 1) (s.size - 1)) (by rw [ext_size _ _ _ (by omega)]; omega)
      have g1 := l1Signs_ev (s.extract 0 i) (by rw [ext_size _ _ _ (by omega)]; omega)
      have g2 := l1Signs_ev (s.extract (i + 1) (s.size - 1)) (by rw [ext_size _ _ _ (by omega)]; omega)
      have z1 : (s.extract 0 i).size = i := by rw [ext_size _ _ _ (by omega)]; omega
      have z2 : (s.extract (i + 1) (s.size - 1)).size = s.size - i - 2 := by rw [ext_size _ _ _ (by omega)]; omega
      have y1 := size_data (s.extract 0 i)
      have y2 := size_data (s.extract (i + 1) (s.size - 1))
      rw [z1] at e1 y1
      rw [z2] at e2 y2
      have himpl : impl_setOf.f s = (impl_signs.f (s.extract 0 i)).bind fun x => (impl_signs.f (s.extract (i + 1) (s.size - 1))).bind fun y => some (x.1, y.1, x.2 && y.2 && decide ((y.1.length : Int) > 0)) := by
        unfold impl_setOf.f
        rw [hc]; simp only [Option.bind_some]
        rw [hsuf]; simp only [Option.bind_some]
        congr 1; funext x; congr 1; funext y
        cases x.2 <;> cases y.2 <;> simp
      have hj2 : ∀ (x y : List Bool × Bool), Ev (fun k => spec_l1Signs.f k (s.extract 0 i)) x → Ev (fun k => spec_l1Signs.f k (s.extract (i + 1) (s.size - 1))) y →
          Ev (fun k => spec_l1Read.f k s) (if x.2 && y.2 && decide (x.1.length ≤ 60) && decide (y.1.length ≤ 60) then (x.1, y.1, true) else ([], [false], false)) := by
        intro x y hx hy
        refine hspec _ (hj1 _ ?_)
        have : (decide (s.size ≤ i + 2) || s.data.toList.getD (s.size - 1) 0 != 41) = false := by rw [c2]; simp; omega
        rw [this]
        refine Ev.step (f := fun k => (spec_l1Signs.f k (s.extract 0 i)).bind fun bt121 => (spec_l1Signs.f k (s.extract (i + 1) (s.size - 1))).bind fun bt125 => (if bt121.2 = true then (if bt125.2 = true then (if (bt121.1.length : Int) > 60 then (some (([] : List Bool), [false], false)) else (if (bt125.1.length : Int) > 60 then (some ([], [false], false)) else (some (bt121.1, bt125.1, true)))) else (some ([], [false], false))) else (some ([], [false], false)))) (fun k => ?_) ?_
        · simp only [spec_l1Read.j2]
          rw [if_neg (by simp), if_pos (by omega), if_pos (by omega), wr (x := (i : Int) + 1) (by omega) (by omega), wr (x := (s.size : Int) - 1) (by omega) (by omega)]
          simp only [if_pos (show (0 : Int) ≤ (i : Int) + 1 from by omega), if_pos (show (i : Int) + 1 ≤ (s.size : Int) - 1 from by omega), if_pos (show (s.size : Int) - 1 ≤ (s.size : Int) from by omega)]
          rw [Int.toNat_natCast, show ((i : Int) + 1).toNat = i + 1 from by omega, show ((s.size : Int) - 1).toNat = s.size - 1 from by omega]
        · refine Ev.bind hx (Ev.bind hy (Ev.const fun k => ?_))
          obtain ⟨x1, x2⟩ := x
          obtain ⟨y1, y2⟩ := y
          cases x2 <;> cases y2 <;> simp
          by_cases q1 : x1.length ≤ 60
          · by_cases q2 : y1.length ≤ 60
            · rw [if_neg (by omega), if_neg (by omega), if_pos ⟨q1, q2⟩]
            · rw [if_neg (by omega), if_pos (by omega), if_neg (by omega)]
          · rw [if_pos (by omega), if_neg (by omega)]
      have hfin := hj2 _ _ g1 g2
      rw [e1, e2] at himpl
      simp only [Option.bind_some] at himpl
      cases o1 : okL (s.extract 0 i).data.toList with
      | false => left; rw [o1] at himpl hfin; exact ⟨⟨_, _, by rw [himpl]; simp; exact ⟨rfl, rfl⟩⟩, ⟨_, _, by simpa using hfin⟩⟩
      | true =>
        cases o2 : okL (s.extract (i + 1) (s.size - 1)).data.toList with
        | false => left; rw [o1, o2] at himpl hfin; exact ⟨⟨_, _, by rw [himpl]; simp; exact ⟨rfl, rfl⟩⟩, ⟨_, _, by simpa using hfin⟩⟩
        | true =>
          rw [o1, o2] at himpl hfin
          simp only [if_true, List.length_map, Bool.and_self, Bool.true_and] at himpl hfin
          rw [y1, y2] at hfin
          rw [y2] at himpl
          by_cases q : i ≤ 60 ∧ s.size - i - 2 ≤ 60
          · right
            refine ⟨(s.extract 0 i).data.toList.map (· == 49), (s.extract (i + 1) (s.size - 1)).data.toList.map (· == 49), ⟨?_, by rw [List.length_map]; omega, by rw [List.length_map]; omega⟩, himpl.trans ?_, ?_⟩
            · rw [List.length_map]; omega
            · rw [decide_eq_true (show ((i : Nat) : Int) ≤ 60 from by omega), decide_eq_true (show (((s.size - i - 2 : Nat) : Int) ≤ 60) from by omega), decide_eq_true (show (((s.size - i - 2 : Nat) : Int) > 0) from by omega)]
              rfl
            · rw [decide_eq_true q.1, decide_eq_true q.2] at hfin
              exact hfin
          · left
            refine ⟨⟨(s.extract 0 i).data.toList.map (· == 49), (s.extract (i + 1) (s.size - 1)).data.toList.map (· == 49), himpl.trans ?_⟩, ⟨[], [false], ?_⟩⟩
            · congr 3
              by_cases q1 : i ≤ 60
              · rw [decide_eq_false (show ¬ (((s.size - i - 2 : Nat) : Int) ≤ 60) from by omega)]; simp
              · rw [decide_eq_false (show ¬ ((i : Nat) : Int) ≤ 60 from by omega)]; simp
            · by_cases q1 : i ≤ 60
              · rw [decide_eq_false (show ¬ (s.size - i - 2 ≤ 60) from by omega)] at hfin; simpa using hfin
              · rw [decide_eq_false q1] at hfin; simpa using hfin
    · left
      have hcond : (decide (s.size ≤ i + 2) || s.data.toList.getD (s.size - 1) 0 != 41) = true := by
        by_cases q : i + 2 < s.size
        · have : ¬ s.data.toList.getD (s.size - 1) 0 = 41 := fun h => c ⟨q, h⟩
          simp only [Bool.or_eq_true, bne_iff_ne, ne_eq]; exact .inr this
        · simp only [Bool.or_eq_true, decide_eq_true_eq]; exact .inl (by omega)
      refine ⟨?_, ⟨[], [false], hspec _ (hj1 _ (hnull _ hcond))⟩⟩
      have e1 := hsg (s.extract 0 i) (by rw [ext_size _ _ _ (by omega)]; omega)
      unfold impl_setOf.f
      rw [hc]; simp only [Option.bind_some]
      rw [hsuf]; simp only [Option.bind_some]
      by_cases q : i + 1 < s.size ∧ s.data.toList.getD (s.size - 1) 0 = 41
      · rw [if_pos q]
        have hem : (s.extract (i + 1) (s.size - 1)).size = 0 := by
          rw [ext_size _ _ _ (by omega)]
          by_cases q2 : i + 2 < s.size
          · exact absurd ⟨q2, q.2⟩ c
          · omega
        have e2 := hsg (s.extract (i + 1) (s.size - 1)) (by omega)
        have y2 := size_data (s.extract (i + 1) (s.size - 1))
        have hn : (s.extract (i + 1) (s.size - 1)).data.toList = [] := List.length_eq_zero_iff.1 (by omega)
        obtain ⟨p, hp⟩ : ∃ p, impl_signs.f (s.extract 0 i) = some p := ⟨_, e1⟩
        rw [hp, e2, hn]
        simp only [Option.bind_some, okL, List.all_nil, if_true, List.map_nil, List.length_nil]
        refine ⟨p.1, [], ?_⟩
        cases p.2 <;> simp
      · rw [if_neg q, e1]
        simp only [Option.bind_some]
        rw [hsg (s.extract (i + 1) s.size) (by omega)]
        simp only [Option.bind_some]
        exact ⟨_, _, rfl⟩

end Go.Proofs.Ytpkpgdlbgcjloaa.Q

namespace Go.Proofs.Ytpkpgdlbgcjloaa.Q
open Go.RowKit Go.Proofs.YtpkpgdlbgcjloaaW.PrintWords Go.Proofs.YtpkpgdlbgcjloaaW.PrintLast Go.Proofs.YtpkpgdlbgcjloaaW.PrintMore
open Go.Proofs.Ytpkpgdlbgcjloaa.Pl
set_option linter.unusedVariables false
set_option linter.unusedSimpArgs false
theorem rdOf_nat (l : List Bool) (n : Nat) : rdOf false l (n : Int) = l.getD n false := by simp [rdOf]
theorem tmod_nat (a b : Nat) : Int.tmod (a : Int) (b : Int) = ((a % b : Nat) : Int) := by
  rw [Int.tmod_eq_emod_of_nonneg (Int.natCast_nonneg a)]; exact (Int.natCast_emod a b).symm
theorem tdiv_nat (a b : Nat) : Int.tdiv (a : Int) (b : Int) = ((a / b : Nat) : Int) := by
  rw [Int.tdiv_eq_ediv_of_nonneg (Int.natCast_nonneg a)]; exact (Int.natCast_ediv a b).symm
theorem wr1 {n : Nat} (h : n ≤ 4611686018427387904) : wrap64 ((n : Int) + 1) = ((n + 1 : Nat) : Int) := by rw [wr (by omega) (by omega)]; omega

theorem set_has {t r : List Bool} (h : Good t r) (n : Nat) (hn : n ≤ 4611686018427387904) : impl_set_has.f t r n = some (hasB t r n) := by
  have h1 := h.pos
  have h2 := h.tl
  have h3 := h.rl
  unfold impl_set_has.f
  rw [if_neg (by omega)]
  by_cases c : n < t.length
  · rw [if_pos (by omega), if_pos (by omega), rdOf_nat, hasB_lt c]
  · have e : wrap64 ((n : Int) - (t.length : Int)) = ((n - t.length : Nat) : Int) := by rw [wr (by omega) (by omega)]; omega
    have hm := Nat.mod_lt (n - t.length) h1
    rw [if_neg (by omega), if_neg (by omega), e, tmod_nat, if_pos (by omega), if_pos (by omega), rdOf_nat, hasB_ge (by omega)]
theorem l1_has {t r : List Bool} (h : Good t r) (n : Nat) (hn : n ≤ 4611686018427387904) : spec_l1Has.f t r n = some (hasB t r n) := by
  have h1 := h.pos
  have h2 := h.tl
  have h3 := h.rl
  unfold spec_l1Has.f
  by_cases c : n < t.length
  · rw [if_pos (by omega), if_pos (by omega), rdOf_nat, hasB_lt c]
  · have e : wrap64 ((n : Int) - (t.length : Int)) = ((n - t.length : Nat) : Int) := by rw [wr (by omega) (by omega)]; omega
    have hm := Nat.mod_lt (n - t.length) h1
    rw [if_neg (by omega), if_neg (by omega), e, tmod_nat, if_pos (by omega), if_pos (by omega), rdOf_nat, hasB_ge (by omega)]


theorem wrm1 {n : Nat} (h0 : 1 ≤ n) (h : n ≤ 4611686018427387904) : wrap64 ((n : Int) - 1) = ((n - 1 : Nat) : Int) := by rw [wr (by omega) (by omega)]; omega

theorem turns_l0 (r : List Bool) (hr : r.length ≤ 1073741824) (d : Nat) (hd : 1 ≤ d) (hdl : d ≤ r.length) (m : Nat) : ∀ i, i + m = r.length → (∀ j, j < i → r.getD j false = r.getD (j % d) false) →
    ∃ b : Bool, Ev (fun k => impl_turns.l0 k r d (r.length : Int) (i : Nat)) b ∧ (b = true ↔ per r d) := by
  induction m with
  | zero =>
    intro i hi hall
    refine ⟨decide (r.length % d = 0), Ev.end fun k => ?_, ?_⟩
    · simp only [impl_turns.l0]
      rw [if_neg (by omega), if_neg (by omega), ← Int.natCast_emod]
      congr 1
      rw [Bool.eq_iff_iff]
      simp only [beq_iff_eq, decide_eq_true_eq]
      omega
    · rw [decide_eq_true_eq]
      exact ⟨fun h => ⟨h, fun j hj => hall j (by omega)⟩, fun h => h.1⟩
  | succ m ih =>
    intro i hi hall
    have hm := Nat.mod_lt i (show d > 0 by omega)
    by_cases c : r.getD i false = r.getD (i % d) false
    · obtain ⟨b, h1, h2⟩ := ih (i + 1) (by omega) (fun j hj => by
        rcases Nat.lt_or_ge j i with h | h
        · exact hall j h
        · obtain rfl : j = i := by omega
          exact c)
      refine ⟨b, Ev.step (fun k => ?_) h1, h2⟩
      simp only [impl_turns.l0]
      rw [if_pos (by omega), if_pos (by omega), if_pos (by omega), if_neg (by omega), tmod_nat, if_pos (by omega), if_pos (by omega), rdOf_nat, rdOf_nat, wr1 (by omega), if_neg (by rw [c]; simp)]
    · refine ⟨false, Ev.end fun k => ?_, ?_⟩
      · simp only [impl_turns.l0]
        rw [if_pos (by omega), if_pos (by omega), if_pos (by omega), if_neg (by omega), tmod_nat, if_pos (by omega), if_pos (by omega), rdOf_nat, rdOf_nat, if_pos (by simpa using c)]
      · exact ⟨fun h => absurd h (by simp), fun h => absurd (h.2 i (by omega)) c⟩
theorem turns_ev (r : List Bool) (hr : r.length ≤ 1073741824) (d : Nat) (hd : 1 ≤ d) (hdl : d ≤ r.length) : ∃ b : Bool, Ev (fun k => impl_turns.f k r d) b ∧ (b = true ↔ per r d) :=
  turns_l0 r hr d hd hdl r.length 0 (by omega) (fun j hj => absurd hj (Nat.not_lt_zero j))

theorem rot_append {r : List Bool} : ([r.getD (r.length - 1) false] : List Bool) ++ r.take (r.length - 1) = rot r := by
  simp [rot, List.dropLast_eq_take]

/-- The tail made short. -/
theorem tidy_l1 (n : Nat) : ∀ (t r : List Bool), t.length = n → t.length ≤ 1073741824 → 0 < r.length → r.length ≤ 1073741824 → (∀ d, 1 ≤ d → d < r.length → ¬ per r d) →
    ∃ t' r', Ev (fun k => impl_set_tidy.l1 k (r.length : Int) t r) (t', r') ∧ Canon t' r' ∧ (∀ m, hasB t' r' m = hasB t r m) ∧ t'.length ≤ t.length ∧ r'.length ≤ r.length := by
  induction n with
  | zero =>
    intro t r ht _ h1 h2 h3
    refine ⟨t, r, Ev.end fun k => ?_, ⟨h1, h3, fun m hm => by omega⟩, fun m => rfl, Nat.le_refl _, Nat.le_refl _⟩
    simp only [impl_set_tidy.l1]
    rw [if_neg (by omega)]
  | succ n ih =>
    intro t r ht htl h1 h2 h3
    have e1 : wrap64 ((t.length : Int) - 1) = (n : Nat) := by rw [wrm1 (by omega) (by omega)]; omega
    by_cases c : t.getD n false = r.getD (r.length - 1) false
    · have hl : (t.take n).length = n := by rw [List.length_take]; omega
      obtain ⟨t', r', g1, g2, g3, g4, g5⟩ := ih (t.take n) (rot r) hl (by omega) (by rw [rot_length h1]; exact h1) (by rw [rot_length h1]; exact h2) (fun d hd1 hd2 hp => by rw [rot_length h1] at hd2; exact h3 d hd1 hd2 (per_rot h1 hd1 hp))
      rw [rot_length h1] at g1 g5
      refine ⟨t', r', Ev.step (fun k => ?_) g1, g2, fun m => by rw [g3, has_rot ht h1 c], by omega, g5⟩
      simp only [impl_set_tidy.l1]
      rw [if_pos (by omega), e1, if_pos (by omega), if_pos (by omega), wrm1 h1 (by omega), if_pos (by omega), if_pos (by omega), rdOf_nat, rdOf_nat, if_pos (by rw [c]; simp), if_pos (by omega)]
      simp only [Option.bind_some]
      rw [if_pos (by omega)]
      rw [if_pos (by simp; omega), Int.toNat_natCast, Int.toNat_natCast, rot_append]
    · refine ⟨t, r, Ev.end fun k => ?_, ⟨h1, h3, fun m hm => (show n = m by omega) ▸ c⟩, fun m => rfl, Nat.le_refl _, Nat.le_refl _⟩
      simp only [impl_set_tidy.l1]
      rw [if_pos (by omega), e1, if_pos (by omega), if_pos (by omega), wrm1 h1 (by omega), if_pos (by omega), if_pos (by omega), rdOf_nat, rdOf_nat, if_neg (by simpa using c)]

theorem tidy_l0 (t r : List Bool) (ht : t.length ≤ 1073741824) (h1 : 0 < r.length) (h2 : r.length ≤ 1073741824) (m : Nat) : ∀ d, d + m = r.length → 1 ≤ d → (∀ e, 1 ≤ e → e < d → ¬ per r e) →
    ∃ t' r', Ev (fun k => impl_set_tidy.l0 k (d : Nat) t r) (t', r') ∧ Canon t' r' ∧ (∀ m, hasB t' r' m = hasB t r m) ∧ t'.length ≤ t.length ∧ r'.length ≤ r.length := by
  induction m with
  | zero =>
    intro d hd hd1 hno
    obtain ⟨b, hb, hb2⟩ := turns_ev r h2 d hd1 (by omega)
    have hp : per r d := ⟨by rw [show r.length = d from by omega]; exact Nat.mod_self d, fun i hi => by rw [Nat.mod_eq_of_lt (by omega)]⟩
    have hl : (r.take d).length = d := by rw [List.length_take]; omega
    obtain ⟨t', r', g1, g2, g3, g4, g5⟩ := tidy_l1 t.length t (r.take d) rfl ht (by omega) (by omega) (fun e he1 he2 hpe => hno e he1 (by omega) (per_take hd1 he1 (by omega) hp hpe))
    rw [hl] at g1 g5
    refine ⟨t', r', ?_, g2, fun m => by rw [g3, has_take hd1 h1 hp (by omega)], g4, by omega⟩
    refine Ev.step (f := fun k => (impl_turns.f k r d).bind fun x => if x = true then impl_set_tidy.l1 k d t (r.take d) else impl_set_tidy.l0 k (wrap64 (d + 1)) t r) (fun k => ?_) ?_
    · simp only [impl_set_tidy.l0, slices_Clone_bool_bool.f]
      rw [if_pos (by omega)]
      simp only [Option.bind_some]
      rw [if_pos (by omega), if_pos (by omega), Int.toNat_natCast, if_pos (by omega)]
      simp only [Option.bind_some]
    · exact Ev.bind hb (by simp only [if_pos (hb2.2 hp)]; exact g1)
  | succ m ih =>
    intro d hd hd1 hno
    obtain ⟨b, hb, hb2⟩ := turns_ev r h2 d hd1 (by omega)
    have hl : (r.take d).length = d := by rw [List.length_take]; omega
    have key : ∃ t' r', Ev (fun k => if b = true then impl_set_tidy.l1 k d t (r.take d) else impl_set_tidy.l0 k (wrap64 ((d : Nat) + 1)) t r) (t', r') ∧ Canon t' r' ∧ (∀ m, hasB t' r' m = hasB t r m) ∧ t'.length ≤ t.length ∧ r'.length ≤ r.length := by
      by_cases c : b = true
      · have hp := hb2.1 c
        obtain ⟨t', r', g1, g2, g3, g4, g5⟩ := tidy_l1 t.length t (r.take d) rfl ht (by omega) (by omega) (fun e he1 he2 hpe => hno e he1 (by omega) (per_take hd1 he1 (by omega) hp hpe))
        rw [hl] at g1 g5
        refine ⟨t', r', ?_, g2, fun m => by rw [g3, has_take hd1 h1 hp (by omega)], g4, by omega⟩
        simp only [if_pos c]
        exact g1
      · obtain ⟨t', r', g1, g2, g3, g4, g5⟩ := ih (d + 1) (by omega) (by omega) (fun e he1 he2 hpe => by
          rcases Nat.lt_or_ge e d with h | h
          · exact hno e he1 h hpe
          · obtain rfl : e = d := by omega
            exact c (hb2.2 hpe))
        refine ⟨t', r', ?_, g2, g3, g4, g5⟩
        simp only [if_neg c]
        rw [wr1 (by omega)]
        exact g1
    obtain ⟨t', r', g1, g2⟩ := key
    refine ⟨t', r', ?_, g2⟩
    refine Ev.step (f := fun k => (impl_turns.f k r d).bind fun x => if x = true then impl_set_tidy.l1 k d t (r.take d) else impl_set_tidy.l0 k (wrap64 (d + 1)) t r) (fun k => ?_) (Ev.bind hb g1)
    simp only [impl_set_tidy.l0, slices_Clone_bool_bool.f]
    rw [if_pos (by omega)]
    simp only [Option.bind_some]
    rw [if_pos (by omega), if_pos (by omega), Int.toNat_natCast, if_pos (by omega)]
    simp only [Option.bind_some]

theorem tidy_ev {t r : List Bool} (h : Good t r) : ∃ t' r', Ev (fun k => impl_set_tidy.f k t r) (t', r') ∧ Canon t' r' ∧ (∀ m, hasB t' r' m = hasB t r m) ∧ t'.length ≤ t.length ∧ r'.length ≤ r.length := by
  have h1 := h.pos
  have h2 := h.tl
  have h3 := h.rl
  exact tidy_l0 t r (by omega) h1 (by omega) (r.length - 1) 1 (by omega) (by omega) (fun e he1 he2 => by omega)

/-- 'comes again behind d' in the reference's words. -/
theorem per_steps (r : List Bool) (d : Nat) (hd : 1 ≤ d) : (∀ i, d ≤ i → i < r.length → r.getD i false = r.getD (i - d) false) ↔ ∀ i, i < r.length → r.getD i false = r.getD (i % d) false := by
  constructor
  · intro h i
    induction i using Nat.strongRecOn with
    | _ i ih =>
      intro hi
      rcases Nat.lt_or_ge i d with c | c
      · rw [Nat.mod_eq_of_lt c]
      · rw [h i c hi, ih (i - d) (by omega) (by omega), ← Nat.mod_eq_sub_mod c]
  · intro h i h1 h2
    rw [h i h2, h (i - d) (by omega), ← Nat.mod_eq_sub_mod h1]

/-- The reference's inner loop. -/
theorem less_l1 (t r : List Bool) (hr : r.length ≤ 1073741824) (d : Nat) (hd : 1 ≤ d) (hdl : d < r.length) (g : Bool → Nat → Option (List Bool × List Bool))
    (hgt : ∀ k, g true k = (spec_l1Less.f k t (r.take d)).bind fun x => some (x.1, x.2)) (hgf : ∀ k, g false k = spec_l1Less.l0 k (r.length : Int) ((d + 1 : Nat) : Int) t r) (res : List Bool × List Bool) (m : Nat) :
    ∀ i (b : Bool), i + m = r.length → d ≤ i → (b = true ↔ r.length % d = 0 ∧ ∀ j, d ≤ j → j < i → r.getD j false = r.getD (j - d) false) →
      (∀ c : Bool, (c = true ↔ r.length % d = 0 ∧ ∀ j, d ≤ j → j < r.length → r.getD j false = r.getD (j - d) false) → Ev (g c) res) → Ev (fun k => spec_l1Less.l1 k (r.length : Int) (d : Nat) b (i : Nat) t r) res := by
  induction m with
  | zero =>
    intro i b hi hdi hb hres
    obtain rfl : i = r.length := by omega
    refine Ev.step (fun k => ?_) (hres b hb)
    simp only [spec_l1Less.l1]
    rw [if_neg (by omega)]
    cases b with
    | true => rw [if_pos rfl, if_pos (by omega), if_pos (by omega), Int.toNat_natCast, hgt]
    | false => rw [if_neg (by simp), wr1 (by omega), hgf]
  | succ m ih =>
    intro i b hi hdi hb hres
    cases b with
    | true =>
      have h1 := hb.1 rfl
      have e : wrap64 ((i : Int) - (d : Int)) = ((i - d : Nat) : Int) := by rw [wr (by omega) (by omega)]; omega
      refine Ev.step (fun k => ?_) (ih (i + 1) (r.getD i false == r.getD (i - d) false) (by omega) (by omega) ?_ hres)
      · simp only [spec_l1Less.l1, if_true]
        rw [if_pos (by omega), if_pos (by omega), if_pos (by omega), e, if_pos (by omega), if_pos (by omega), rdOf_nat, rdOf_nat, wr1 (by omega)]
      · rw [beq_iff_eq]
        constructor
        · intro c
          refine ⟨h1.1, fun j hj1 hj2 => ?_⟩
          rcases Nat.lt_or_ge j i with h | h
          · exact h1.2 j hj1 h
          · obtain rfl : j = i := by omega
            exact c
        · intro c
          exact c.2 i hdi (by omega)
    | false =>
      refine Ev.step (fun k => ?_) (hres false ⟨fun h => (by cases h), fun h => (hb.2 ⟨h.1, fun j hj1 hj2 => h.2 j hj1 (by omega)⟩)⟩)
      simp only [spec_l1Less.l1]
      rw [if_pos (by omega), if_neg (by simp), wr1 (by omega), hgf]

theorem less_ev (n : Nat) : ∀ t r : List Bool, t.length + r.length = n → t.length ≤ 1073741824 → 0 < r.length → r.length ≤ 1073741824 →
    ∃ t' r', Ev (fun k => spec_l1Less.f k t r) (t', r') ∧ Canon t' r' ∧ (∀ m, hasB t' r' m = hasB t r m) ∧ t'.length ≤ t.length ∧ r'.length ≤ r.length := by
  induction n using Nat.strongRecOn with
  | _ n ih =>
    intro t r hn ht h1 h2
    have loop : ∀ m d, d + m = r.length → 1 ≤ d → (∀ e, 1 ≤ e → e < d → ¬ per r e) → ∃ t' r', Ev (fun k => spec_l1Less.l0 k (r.length : Int) (d : Nat) t r) (t', r') ∧ Canon t' r' ∧ (∀ m, hasB t' r' m = hasB t r m) ∧ t'.length ≤ t.length ∧ r'.length ≤ r.length := by
      intro m
      induction m with
      | zero =>
        intro d hd hd1 hno
        obtain rfl : d = r.length := by omega
        by_cases ct : t.length = 0
        · refine ⟨t, r, Ev.end fun k => ?_, ⟨h1, hno, fun m hm => by omega⟩, fun m => rfl, Nat.le_refl _, Nat.le_refl _⟩
          simp only [spec_l1Less.l0]
          rw [if_neg (by omega), if_neg (by omega)]
        · obtain ⟨q, hq⟩ : ∃ q, t.length = q + 1 := ⟨t.length - 1, by omega⟩
          have e1 : wrap64 ((t.length : Int) - 1) = (q : Nat) := by rw [wrm1 (by omega) (by omega)]; omega
          by_cases c : t.getD q false = r.getD (r.length - 1) false
          · have hl : (t.take q).length = q := by rw [List.length_take]; omega
            obtain ⟨t', r', g1, g2, g3, g4, g5⟩ := ih (q + r.length) (by omega) (t.take q) (rot r) (by rw [rot_length h1, hl]) (by omega) (by rw [rot_length h1]; exact h1) (by rw [rot_length h1]; exact h2)
            rw [rot_length h1] at g5
            refine ⟨t', r', Ev.step (f := fun k => (spec_l1Less.f k (t.take q) (rot r)).bind fun x => some (x.1, x.2)) (fun k => ?_) (Ev.bind g1 (Ev.now _)), g2, fun m => by rw [g3, has_rot hq h1 c], by omega, g5⟩
            simp only [spec_l1Less.l0]
            rw [if_neg (by omega), if_pos (by omega), e1, if_pos (by omega), if_pos (by omega), wrm1 h1 (by omega), if_pos (by omega), if_pos (by omega), rdOf_nat, rdOf_nat, if_pos (by rw [c]; simp)]
            simp only [Option.bind_some]
            rw [if_pos (by omega)]
            rw [if_pos (by simp; omega), if_pos (by omega), Int.toNat_natCast, Int.toNat_natCast, rot_append]
          · refine ⟨t, r, Ev.end fun k => ?_, ⟨h1, hno, fun m hm => (show q = m by omega) ▸ c⟩, fun m => rfl, Nat.le_refl _, Nat.le_refl _⟩
            simp only [spec_l1Less.l0]
            rw [if_neg (by omega), if_pos (by omega), e1, if_pos (by omega), if_pos (by omega), wrm1 h1 (by omega), if_pos (by omega), if_pos (by omega), rdOf_nat, rdOf_nat, if_neg (by simpa using c)]
      | succ m ihm =>
        intro d hd hd1 hno
        have hl : (r.take d).length = d := by rw [List.length_take]; omega
        have hstep : ∀ res, Ev (fun k => spec_l1Less.l1 k (r.length : Int) (d : Nat) (decide (r.length % d = 0)) (d : Nat) t r) res → Ev (fun k => spec_l1Less.l0 k (r.length : Int) (d : Nat) t r) res := by
          intro res hres
          refine Ev.step (fun k => ?_) hres
          simp only [spec_l1Less.l0]
          rw [if_pos (by omega), if_neg (by omega), tmod_nat]
          congr 1
          rw [Bool.eq_iff_iff]
          simp only [beq_iff_eq, decide_eq_true_eq]
          omega
        by_cases hp : per r d
        · obtain ⟨t', r', g1, g2, g3, g4, g5⟩ := ih (t.length + d) (by omega) t (r.take d) (by rw [hl]) ht (by omega) (by omega)
          refine ⟨t', r', hstep _ ?_, g2, fun m => by rw [g3, has_take hd1 h1 hp (by omega)], g4, by omega⟩
          refine less_l1 t r h2 d hd1 (by omega) (fun b k => if b = true then (spec_l1Less.f k t (r.take d)).bind fun x => some (x.1, x.2) else spec_l1Less.l0 k (r.length : Int) ((d + 1 : Nat) : Int) t r) (fun k => if_pos rfl) (fun k => if_neg (by simp)) (t', r') m.succ d (decide (r.length % d = 0)) (by omega) (Nat.le_refl _) ?_ ?_
          · rw [decide_eq_true_eq]
            exact ⟨fun h => ⟨h, fun j a b => by omega⟩, fun h => h.1⟩
          · intro c hc
            have : c = true := hc.2 ⟨hp.1, (per_steps r d hd1).2 hp.2⟩
            subst this
            simp only [if_true]
            exact Ev.bind g1 (Ev.now _)
        · obtain ⟨t', r', g1, g2, g3, g4, g5⟩ := ihm (d + 1) (by omega) (by omega) (fun e he1 he2 hpe => by
            rcases Nat.lt_or_ge e d with h | h
            · exact hno e he1 h hpe
            · obtain rfl : e = d := by omega
              exact hp hpe)
          refine ⟨t', r', hstep _ ?_, g2, g3, g4, g5⟩
          refine less_l1 t r h2 d hd1 (by omega) (fun b k => if b = true then (spec_l1Less.f k t (r.take d)).bind fun x => some (x.1, x.2) else spec_l1Less.l0 k (r.length : Int) ((d + 1 : Nat) : Int) t r) (fun k => if_pos rfl) (fun k => if_neg (by simp)) (t', r') m.succ d (decide (r.length % d = 0)) (by omega) (Nat.le_refl _) ?_ ?_
          · rw [decide_eq_true_eq]
            exact ⟨fun h => ⟨h, fun j a b => by omega⟩, fun h => h.1⟩
          · intro c hc
            have : ¬ c = true := fun h => hp ⟨(hc.1 h).1, (per_steps r d hd1).1 (hc.1 h).2⟩
            simp only [if_neg this]
            exact g1
    obtain ⟨t', r', g1, g2⟩ := loop (r.length - 1) 1 (by omega) (by omega) (fun e he1 he2 => by omega)
    exact ⟨t', r', Ev.step (fun k => by simp only [spec_l1Less.f]; rfl) g1, g2⟩

/-- The tidy form of a set, for both. -/
structure Tidied (t r t' r' : List Bool) : Prop where
  impl : Ev (fun k => impl_set_tidy.f k t r) (t', r')
  spec : Ev (fun k => spec_l1Less.f k t r) (t', r')
  canon : Canon t' r'
  same : ∀ n, hasB t' r' n = hasB t r n
  good : Good t' r'
  tle : t'.length ≤ t.length
  rle : r'.length ≤ r.length
theorem tidied {t r : List Bool} (h : Good t r) : ∃ t' r', Tidied t r t' r' := by
  have h1 := h.pos
  have h2 := h.tl
  have h3 := h.rl
  obtain ⟨t', r', g1, g2, g3, g4, g5⟩ := tidy_ev h
  obtain ⟨t2, r2, k1, k2, k3, k4, k5⟩ := less_ev (t.length + r.length) t r rfl (by omega) h1 (by omega)
  obtain ⟨rfl, rfl⟩ := canon_unique g2 k2 (fun n => by rw [g3, k3])
  exact ⟨t', r', g1, k1, g2, g3, ⟨g2.pos, by omega, by omega⟩, g4, g5⟩


structure IsSmall (s : ByteArray) (t r : List Bool) : Prop where
  orig : ∃ t0 r0, IsSet s t0 r0 ∧ Tidied t0 r0 t r
  good : Good t r
  tl : t.length ≤ 8
  rl : r.length ≤ 8
  impl : Ev (fun k => impl_small.f k s) (t, r, true)
  spec : Ev (fun k => spec_l4Small.f k s) (t, r, true)
structure NoSmall (s : ByteArray) : Prop where
  impl : ∃ a b, Ev (fun k => impl_small.f k s) (a, b, false)
  spec : ∃ a b, Ev (fun k => spec_l4Small.f k s) (a, b, false)
theorem small_cases (s : ByteArray) (hs : s.size ≤ 1073741824) : NoSmall s ∨ ∃ t r, IsSmall s t r := by
  rcases read_cases s hs with h | ⟨t0, r0, h⟩
  · left
    obtain ⟨⟨a, b, ha⟩, ⟨a', b', hb⟩⟩ := h
    refine ⟨⟨[], [], ?_⟩, ⟨a', b', ?_⟩⟩
    · unfold impl_small.f impl_tidied.f
      rw [ha]; simp only [Option.bind_some, Bool.false_eq_true, if_false]
      exact Ev.now _
    · unfold spec_l4Small.f
      refine Ev.bind hb ?_
      simp only [Bool.false_eq_true, if_false]
      exact Ev.now _
  · obtain ⟨t, r, hT⟩ := tidied h.good
    have hi : Ev (fun k => impl_small.f k s) (t, r, decide ((t.length : Int) ≤ 8) && decide ((r.length : Int) ≤ 8)) := by
      unfold impl_small.f impl_tidied.f
      rw [h.impl]; simp only [Option.bind_some, if_true]
      refine Ev.bind (a := (t, r, true)) (Ev.bind hT.impl (Ev.now _)) (Ev.const fun k => ?_)
      rw [if_pos rfl]
      by_cases c : (t.length : Int) ≤ 8
      · rw [if_pos c, decide_eq_true c]; rfl
      · rw [if_neg c, decide_eq_false c]; rfl
    have hs : Ev (fun k => spec_l4Small.f k s) (t, r, decide ((t.length : Int) ≤ 8) && decide ((r.length : Int) ≤ 8)) := by
      unfold spec_l4Small.f
      refine Ev.bind h.spec ?_
      simp only [if_true]
      refine Ev.bind hT.spec (Ev.const fun k => ?_)
      by_cases c : (t.length : Int) ≤ 8
      · rw [if_pos c, decide_eq_true c]; rfl
      · rw [if_neg c, decide_eq_false c]; rfl
    by_cases c : t.length ≤ 8 ∧ r.length ≤ 8
    · right
      rw [decide_eq_true (by omega), decide_eq_true (by omega)] at hi hs
      exact ⟨t, r, ⟨t0, r0, h, hT⟩, hT.good, c.1, c.2, hi, hs⟩
    · left
      have : (decide ((t.length : Int) ≤ 8) && decide ((r.length : Int) ≤ 8)) = false := by
        by_cases c1 : t.length ≤ 8
        · rw [decide_eq_false (show ¬ (r.length : Int) ≤ 8 by omega), Bool.and_false]
        · rw [decide_eq_false (show ¬ (t.length : Int) ≤ 8 by omega), Bool.false_and]
      rw [this] at hi hs
      exact ⟨⟨t, r, hi⟩, ⟨t, r, hs⟩⟩
theorem IsSmall.has {s : ByteArray} {t r : List Bool} (h : IsSmall s t r) : ∃ t0 r0, IsSet s t0 r0 ∧ ∀ n, hasB t0 r0 n = hasB t r n := by
  obtain ⟨t0, r0, h1, h2⟩ := h.orig
  exact ⟨t0, r0, h1, fun n => (h2.same n).symm⟩

theorem getD_set_self (l : List Bool) (i : Nat) (v : Bool) (h : i < l.length) : (l.set i v).getD i false = v := by simp [List.getD, h]
theorem getD_set_ne (l : List Bool) {i j : Nat} (v : Bool) (h : i ≠ j) : (l.set i v).getD j false = l.getD j false := by simp [List.getD, h]

theorem wrs {a b : Nat} (h : b ≤ a) (ha : a ≤ 4611686018427387904) : wrap64 ((a : Int) - (b : Int)) = ((a - b : Nat) : Int) := by rw [wr (by omega) (by omega)]; omega

theorem star_l1 {t r : List Bool} (h : Good t r) (m : Nat) (hm : m ≤ 1000000) (i : Nat) (hi : i < m) (P : List Bool → Prop)
    (hend : ∀ l, l.length = m → (∀ j, j < i + 1 → l.getD j false = star (hasB t r) j) → ∃ l', Ev (fun k => impl_star.l0 k l m ((i + 1 : Nat) : Int) t r) l' ∧ P l') (d : Nat) :
    ∀ (q : Nat) (l : List Bool), q + d = i + 1 → 1 ≤ q → l.length = m → (∀ j, j < i → l.getD j false = star (hasB t r) j) → (l.getD i false = true → star (hasB t r) i = true) → (l.getD i false = false → 1 ≤ i ∧ ∀ y, 1 ≤ y → y < q → ¬ (hasB t r y = true ∧ star (hasB t r) (i - y) = true)) →
      ∃ l', Ev (fun k => impl_star.l1 k l (i : Nat) (q : Nat) m (i : Nat) t r) l' ∧ P l' := by
  have fin : ∀ l : List Bool, l.length = m → (∀ j, j < i → l.getD j false = star (hasB t r) j) → l.getD i false = star (hasB t r) i → ∃ l', Ev (fun k => impl_star.l0 k l m ((i + 1 : Nat) : Int) t r) l' ∧ P l' := by
    intro l hl ha hb
    refine hend l hl fun j hj => ?_
    rcases Nat.lt_or_ge j i with c | c
    · exact ha j c
    · obtain rfl : j = i := by omega
      exact hb
  induction d with
  | zero =>
    intro q l hq h1 hl ha hb hc
    have hb' : l.getD i false = star (hasB t r) i := by
      cases e : l.getD i false with
      | true => exact (hb e).symm
      | false =>
        obtain ⟨g1, g2⟩ := hc e
        cases es : star (hasB t r) i with
        | false => rfl
        | true =>
          obtain ⟨y, p1, p2, p3, p4⟩ := (star_iff _ g1).1 es
          exact absurd ⟨p3, p4⟩ (g2 y p1 (by omega))
    obtain ⟨l', k1, k2⟩ := fin l hl ha hb'
    refine ⟨l', Ev.step (fun k => ?_) k1, k2⟩
    simp only [impl_star.l1]
    rw [if_neg (by omega), wr1 (by omega)]
  | succ d ih =>
    intro q l hq h1 hl ha hb hc
    cases e : l.getD i false with
    | true =>
      obtain ⟨l', k1, k2⟩ := fin l hl ha (by rw [e, hb e])
      refine ⟨l', Ev.step (fun k => ?_) k1, k2⟩
      simp only [impl_star.l1]
      rw [if_pos (by omega), if_pos (by omega), if_pos (by omega), rdOf_nat, if_pos e, wr1 (by omega)]
    | false =>
      obtain ⟨g1, g2⟩ := hc e
      have nx : ∀ v : Bool, (v = true ↔ hasB t r q = true ∧ star (hasB t r) (i - q) = true) → ∃ l', Ev (fun k => impl_star.l1 k (l.set i v) (i : Nat) ((q + 1 : Nat) : Int) m (i : Nat) t r) l' ∧ P l' := by
        intro v hv
        refine ih (q + 1) (l.set i v) (by omega) (by omega) (by rw [List.length_set, hl]) (fun j hj => by rw [getD_set_ne _ _ (by omega)]; exact ha j hj) ?_ ?_
        · rw [getD_set_self _ _ _ (by omega)]
          intro hv1
          obtain ⟨p1, p2⟩ := hv.1 hv1
          exact (star_iff _ g1).2 ⟨q, h1, by omega, p1, p2⟩
        · rw [getD_set_self _ _ _ (by omega)]
          intro hv1
          refine ⟨g1, fun y a b => ?_⟩
          rcases Nat.lt_or_ge y q with c | c
          · exact g2 y a c
          · obtain rfl : y = q := by omega
            intro hx
            rw [hv.2 hx] at hv1
            cases hv1
      by_cases c : hasB t r q = true
      · obtain ⟨l', k1, k2⟩ := nx (l.getD (i - q) false) (by rw [ha (i - q) (by omega)]; exact ⟨fun h => ⟨c, h⟩, fun h => h.2⟩)
        refine ⟨l', Ev.step (fun k => ?_) k1, k2⟩
        simp only [impl_star.l1]
        rw [if_pos (by omega), if_pos (by omega), if_pos (by omega), rdOf_nat, if_neg (by rw [e]; simp), set_has h q (by omega)]
        simp only [Option.bind_some]
        rw [if_pos c, wrs (by omega) (by omega), if_pos (by omega), if_pos (by omega), rdOf_nat, wr1 (by omega), Int.toNat_natCast]
      · obtain ⟨l', k1, k2⟩ := nx false (by simp [c])
        refine ⟨l', Ev.step (fun k => ?_) k1, k2⟩
        simp only [impl_star.l1]
        rw [if_pos (by omega), if_pos (by omega), if_pos (by omega), rdOf_nat, if_neg (by rw [e]; simp), set_has h q (by omega)]
        simp only [Option.bind_some]
        rw [if_neg c, wr1 (by omega), Int.toNat_natCast]
/-- A list that tells f up to its length. -/
structure Tells (l : List Bool) (f : Nat → Bool) (m : Nat) : Prop where
  len : l.length = m
  get : ∀ j, j < m → l.getD j false = f j
theorem star_l0 {t r : List Bool} (h : Good t r) (m : Nat) (hm : m ≤ 1000000) (d : Nat) : ∀ (i : Nat) (l : List Bool), i + d = m → l.length = m → (∀ j, j < i → l.getD j false = star (hasB t r) j) → ∃ l', Ev (fun k => impl_star.l0 k l m (i : Nat) t r) l' ∧ Tells l' (star (hasB t r)) m := by
  induction d with
  | zero =>
    intro i l hi hl ha
    obtain rfl : i = m := by omega
    refine ⟨l, Ev.end fun k => ?_, hl, ha⟩
    simp only [impl_star.l0]
    rw [if_neg (by omega)]
  | succ d ih =>
    intro i l hi hl ha
    obtain ⟨l', k1, k2⟩ := star_l1 h m hm i (by omega) (fun l' => Tells l' (star (hasB t r)) m) (fun l hl ha => ih (i + 1) l (by omega) hl ha) i 1 (l.set i (decide (i = 0))) (by omega) (by omega) (by rw [List.length_set, hl]) (fun j hj => by rw [getD_set_ne _ _ (by omega)]; exact ha j hj)
      (by rw [getD_set_self _ _ _ (by omega)]; intro h0; have := of_decide_eq_true h0; subst this; exact star_zero _)
      (by rw [getD_set_self _ _ _ (by omega)]; intro h0; have := of_decide_eq_false h0; exact ⟨by omega, fun y a b => by omega⟩)
    refine ⟨l', Ev.step (fun k => ?_) k1, k2⟩
    simp only [impl_star.l0]
    rw [if_pos (by omega), if_pos (by omega), if_pos (by omega), Int.toNat_natCast]
    congr 2
    rw [Bool.eq_iff_iff, beq_iff_eq, decide_eq_true_eq]; omega
theorem star_ev {t r : List Bool} (h : Good t r) (m : Nat) (hm : m ≤ 1000000) : ∃ l, Ev (fun k => impl_star.f k t r m) l ∧ Tells l (star (hasB t r)) m := by
  obtain ⟨l, k1, k2⟩ := star_l0 h m hm m 0 (List.replicate m false) (by omega) (List.length_replicate ..) (fun j hj => absurd hj (Nat.not_lt_zero j))
  refine ⟨l, ?_, k2⟩
  unfold impl_star.f
  simp only [if_pos (show (0 : Int) ≤ (m : Int) by omega), Int.toNat_natCast, if_pos (show m ≤ 281474976710656 by omega), Option.bind_some, List.length_replicate]
  exact k1


theorem mx_nat' (a b : Nat) : mx (a : Int) (b : Int) = ((max a b : Nat) : Int) := by unfold mx; split <;> omega

theorem lcm_eq (p q : Nat) : p / Nat.gcd p q * q = Nat.lcm p q := by
  unfold Nat.lcm
  rw [Nat.mul_comm p q, Nat.mul_div_assoc _ (Nat.gcd_dvd_left p q), Nat.mul_comm]
end Go.Proofs.Ytpkpgdlbgcjloaa.Q

namespace Go.Proofs.Ytpkpgdlbgcjloaa.Q
open Go.RowKit Go.Proofs.YtpkpgdlbgcjloaaW.PrintWords Go.Proofs.YtpkpgdlbgcjloaaW.PrintLast Go.Proofs.YtpkpgdlbgcjloaaW.PrintMore
open Go.Proofs.Ytpkpgdlbgcjloaa.Pl (hasB)
set_option linter.unusedVariables false
set_option linter.unusedSimpArgs false
theorem read_yes (s : ByteArray) (hs : s.size ≤ 1073741824) (i : Nat) (h1 : i < s.data.toList.length) (h2 : Lib.indexByte s.data.toList 40 = i) (h3 : s.data.toList.getD i 0 = 40) (h4 : ∀ j, j < i → s.data.toList.getD j 0 ≠ 40)
    (c1 : i + 2 < s.size) (c2 : s.data.toList.getD (s.size - 1) 0 = 41) (o1 : okL (s.extract 0 i).data.toList = true) (o2 : okL (s.extract (i + 1) (s.size - 1)).data.toList = true) (q : i ≤ 60 ∧ s.size - i - 2 ≤ 60) :
    IsSet s ((s.extract 0 i).data.toList.map (· == 49)) ((s.extract (i + 1) (s.size - 1)).data.toList.map (· == 49)) := by
  have hl := size_data s
  have hsg := fun (x : ByteArray) (hx : x.size ≤ 1073741824) => signs_ev x hx
  have hi : i < s.size := by omega
  have hc : strings_Cut.f s ⟨#[40]⟩ = some (s.extract 0 i, s.extract (i + 1) s.size, true) := by
    unfold strings_Cut.f stringslite_Cut.f stringslite_Index.f
    rw [dif_pos (by rfl)]
    show ((some (Lib.indexByte s.data.toList 40)).bind _).bind _ = _
    rw [h2]
    simp only [Option.bind_some]
    have hz : ((⟨#[40]⟩ : ByteArray).size : Int) = 1 := rfl
    rw [if_pos (by omega), if_pos (by omega), if_pos (by omega), hz, wr (by omega) (by omega), if_pos (by omega), if_pos (by omega)]
    simp only [Option.bind_some, Int.toNat_natCast]
    rw [show ((i : Int) + 1).toNat = i + 1 from by omega]
  have hz1 : (s.extract (i + 1) s.size).size = s.size - (i + 1) := ext_size _ _ _ (Nat.le_refl _)
  have h41 : ((⟨#[41]⟩ : ByteArray).size : Int) = 1 := rfl
  have hsuf : strings_CutSuffix.f (s.extract (i + 1) s.size) ⟨#[41]⟩ = some (if i + 1 < s.size ∧ s.data.toList.getD (s.size - 1) 0 = 41 then (s.extract (i + 1) (s.size - 1), true) else (s.extract (i + 1) s.size, false)) := by
    unfold strings_CutSuffix.f stringslite_CutSuffix.f stringslite_HasSuffix.f
    rw [h41]
    by_cases c : i + 1 < s.size
    · rw [if_pos (by omega), wr (by omega) (by omega), if_pos (by omega), if_pos (by omega), show (((s.extract (i + 1) s.size).size : Int) - 1).toNat = (s.extract (i + 1) s.size).size - 1 from by omega, last_eq c, ring_eq c]
      simp only [Option.bind_some]
      have hb : ([s.data.toList.getD (s.size - 1) 0] == (⟨#[41]⟩ : ByteArray).toList) = decide (s.data.toList.getD (s.size - 1) 0 = 41) := by
        rw [toList_eq, Bool.eq_iff_iff]; simp
      rw [hb]
      by_cases e : s.data.toList.getD (s.size - 1) 0 = 41
      · rw [decide_eq_true e, if_pos rfl, if_pos (by omega), if_pos (by omega), if_pos ⟨c, e⟩]; rfl
      · rw [decide_eq_false e, if_neg (by simp), if_neg (by intro h; exact e h.2)]; rfl
    · rw [if_neg (by omega)]
      simp only [Option.bind_some, Bool.false_eq_true, if_false]
      rw [if_neg (fun h => c h.1)]
  have hspec : ∀ (r : List Bool × List Bool × Bool), Ev (fun k => spec_l1Read.j1 k s i [] [false]) r → Ev (fun k => spec_l1Read.f k s) r := by
    intro r hr
    exact read_l0 s hs [] [false] i (by omega) (fun j hj => h4 j hj) (fun _ => h3) hr i 0 (by omega)
  have hnull : ∀ x : Bool, x = true → Ev (fun k => spec_l1Read.j2 k s (i : Nat) x [] [false]) (([] : List Bool), [false], false) := by
    intro x hx
    refine Ev.end fun k => ?_
    simp only [spec_l1Read.j2]
    rw [if_pos hx]
  -- for the reader's bracket at the end
  have hj1 : ∀ r, Ev (fun k => spec_l1Read.j2 k s (i : Nat) (decide (s.size ≤ i + 2) || s.data.toList.getD (s.size - 1) 0 != 41) [] [false]) r → Ev (fun k => spec_l1Read.j1 k s i [] [false]) r := by
    intro r hr
    refine Ev.step (fun k => ?_) hr
    simp only [spec_l1Read.j1]
    rw [wr (x := (i : Int) + 2) (by omega) (by omega), wr (x := (s.size : Int) - 1) (by omega) (by omega)]
    by_cases c : s.size ≤ i + 2
    · rw [if_pos (by omega)]; simp [c]
    · rw [if_neg (by omega), if_pos (by omega), if_pos (by omega)]
      rw [show (s.size : Int) - 1 = ((s.size - 1 : Nat) : Int) from by omega]
      congr 1
      simp only [c, decide_false, Bool.false_or]
      have := bt_is s (s.size - 1) (by omega) 41 41 rfl
      rw [Bool.eq_iff_iff]; simp only [bne_iff_ne, ne_eq, this]
  rw [if_pos ⟨by omega, c2⟩] at hsuf
  have e1 := hsg (s.extract 0 i) (by rw [ext_size _ _ _ (by omega)]; omega)
  have e2 := hsg (s.extract (i + 1) (s.size - 1)) (by rw [ext_size _ _ _ (by omega)]; omega)
  have g1 := l1Signs_ev (s.extract 0 i) (by rw [ext_size _ _ _ (by omega)]; omega)
  have g2 := l1Signs_ev (s.extract (i + 1) (s.size - 1)) (by rw [ext_size _ _ _ (by omega)]; omega)
  have z1 : (s.extract 0 i).size = i := by rw [ext_size _ _ _ (by omega)]; omega
  have z2 : (s.extract (i + 1) (s.size - 1)).size = s.size - i - 2 := by rw [ext_size _ _ _ (by omega)]; omega
  have y1 := size_data (s.extract 0 i)
  have y2 := size_data (s.extract (i + 1) (s.size - 1))
  rw [z1] at e1 y1
  rw [z2] at e2 y2
  have himpl : impl_setOf.f s = (impl_signs.f (s.extract 0 i)).bind fun x => (impl_signs.f (s.extract (i + 1) (s.size - 1))).bind fun y => some (x.1, y.1, x.2 && y.2 && decide ((y.1.length : Int) > 0)) := by
    unfold impl_setOf.f
    rw [hc]; simp only [Option.bind_some]
    rw [hsuf]; simp only [Option.bind_some]
    congr 1; funext x; congr 1; funext y
    cases x.2 <;> cases y.2 <;> simp
  have hj2 : ∀ (x y : List Bool × Bool), Ev (fun k => spec_l1Signs.f k (s.extract 0 i)) x → Ev (fun k => spec_l1Signs.f k (s.extract (i + 1) (s.size - 1))) y →
      Ev (fun k => spec_l1Read.f k s) (if x.2 && y.2 && decide (x.1.length ≤ 60) && decide (y.1.length ≤ 60) then (x.1, y.1, true) else ([], [false], false)) := by
    intro x y hx hy
    refine hspec _ (hj1 _ ?_)
    have : (decide (s.size ≤ i + 2) || s.data.toList.getD (s.size - 1) 0 != 41) = false := by rw [c2]; simp; omega
    rw [this]
    refine Ev.step (f := fun k => (spec_l1Signs.f k (s.extract 0 i)).bind fun bt121 => (spec_l1Signs.f k (s.extract (i + 1) (s.size - 1))).bind fun bt125 => (if bt121.2 = true then (if bt125.2 = true then (if (bt121.1.length : Int) > 60 then (some (([] : List Bool), [false], false)) else (if (bt125.1.length : Int) > 60 then (some ([], [false], false)) else (some (bt121.1, bt125.1, true)))) else (some ([], [false], false))) else (some ([], [false], false)))) (fun k => ?_) ?_
    · simp only [spec_l1Read.j2]
      rw [if_neg (by simp), if_pos (by omega), if_pos (by omega), wr (x := (i : Int) + 1) (by omega) (by omega), wr (x := (s.size : Int) - 1) (by omega) (by omega)]
      simp only [if_pos (show (0 : Int) ≤ (i : Int) + 1 from by omega), if_pos (show (i : Int) + 1 ≤ (s.size : Int) - 1 from by omega), if_pos (show (s.size : Int) - 1 ≤ (s.size : Int) from by omega)]
      rw [Int.toNat_natCast, show ((i : Int) + 1).toNat = i + 1 from by omega, show ((s.size : Int) - 1).toNat = s.size - 1 from by omega]
    · refine Ev.bind hx (Ev.bind hy (Ev.const fun k => ?_))
      obtain ⟨x1, x2⟩ := x
      obtain ⟨y1, y2⟩ := y
      cases x2 <;> cases y2 <;> simp
      by_cases q1 : x1.length ≤ 60
      · by_cases q2 : y1.length ≤ 60
        · rw [if_neg (by omega), if_neg (by omega), if_pos ⟨q1, q2⟩]
        · rw [if_neg (by omega), if_pos (by omega), if_neg (by omega)]
      · rw [if_pos (by omega), if_neg (by omega)]
  have hfin := hj2 _ _ g1 g2
  rw [e1, e2] at himpl
  simp only [Option.bind_some] at himpl
  rw [o1, o2] at himpl hfin
  simp only [if_true, List.length_map, Bool.and_self, Bool.true_and] at himpl hfin
  rw [y1, y2] at hfin
  rw [y2] at himpl
  refine ⟨⟨?_, by rw [List.length_map]; omega, by rw [List.length_map]; omega⟩, himpl.trans ?_, ?_⟩
  · rw [List.length_map]; omega
  · rw [decide_eq_true (show ((i : Nat) : Int) ≤ 60 from by omega), decide_eq_true (show (((s.size - i - 2 : Nat) : Int) ≤ 60) from by omega), decide_eq_true (show (((s.size - i - 2 : Nat) : Int) > 0) from by omega)]
    rfl
  · rw [decide_eq_true q.1, decide_eq_true q.2] at hfin
    exact hfin

/-- The signs of a list. -/
def tell (l : List Bool) : List UInt8 := l.map fun b => if b = true then 49 else 48
theorem tell_length (l : List Bool) : (tell l).length = l.length := by simp [tell]
theorem tell_back (l : List Bool) : (tell l).map (· == 49) = l := by
  induction l with
  | nil => rfl
  | cons b l ih => cases b <;> simp [tell] at * <;> exact ih
theorem tell_ok (l : List Bool) : okL (tell l) = true := by
  induction l with
  | nil => rfl
  | cons b l ih => cases b <;> simp [tell, okL] at * <;> exact ih
theorem tell_ne (l : List Bool) (j : Nat) (h : j < l.length) : (tell l).getD j 0 ≠ 40 := by
  simp only [tell, List.getD, List.getElem?_map, List.getElem?_eq_getElem h, Option.map_some, Option.getD_some]
  split <;> decide
/-- The text of a tail and a ring. -/
def textL (t r : List Bool) : List UInt8 := tell t ++ 40 :: (tell r ++ [41])
def text (t r : List Bool) : ByteArray := ⟨(textL t r).toArray⟩
theorem textL_length (t r : List Bool) : (textL t r).length = t.length + r.length + 2 := by simp [textL, tell_length]; omega
theorem text_size (t r : List Bool) : (text t r).size = t.length + r.length + 2 := textL_length t r
theorem text_isSet {t r : List Bool} (h : Good t r) : IsSet (text t r) t r := by
  have h1 := h.pos
  have h2 := h.tl
  have h3 := h.rl
  have hz := text_size t r
  have hd : (text t r).data.toList = textL t r := rfl
  have hget : (textL t r).getD t.length 0 = 40 := by
    simp [textL, List.getD, tell_length]
  have hne : ∀ j, j < t.length → (textL t r).getD j 0 ≠ 40 := by
    intro j hj
    have := tell_ne t j hj
    simp only [textL, List.getD] at this ⊢
    rw [List.getElem?_append_left (by rw [tell_length]; exact hj)]
    exact this
  have hlast : (textL t r).getD ((text t r).size - 1) 0 = 41 := by
    rw [hz]
    simp only [textL, List.getD]
    rw [List.getElem?_append_right (by rw [tell_length]; omega), tell_length]
    rw [show t.length + r.length + 2 - 1 - t.length = r.length + 1 from by omega, List.getElem?_cons_succ, List.getElem?_append_right (by rw [tell_length]; omega), tell_length, Nat.sub_self]
    rfl
  have hidx : Lib.indexByte (text t r).data.toList 40 = (t.length : Int) := by
    rcases index_cases (text t r).data.toList 40 with ⟨_, g⟩ | ⟨i, g1, g2, g3, g4⟩
    · exact absurd hget (g t.length (by rw [hd, textL_length]; omega))
    · have : i = t.length := by
        rcases Nat.lt_trichotomy i t.length with c | c | c
        · exact absurd g3 (hne i c)
        · exact c
        · exact absurd hget (g4 t.length c)
      rw [g2, this]
  have x1 : ((text t r).extract 0 t.length).data.toList = tell t := by
    rw [ext_list, hd, List.drop_zero]
    simp [textL, tell_length]
  have x2 : ((text t r).extract (t.length + 1) ((text t r).size - 1)).data.toList = tell r := by
    rw [ext_list, hd, hz]
    have e : textL t r = tell t ++ [40] ++ tell r ++ [41] := by simp [textL]
    rw [e, show t.length + r.length + 2 - 1 = (tell t ++ [40] ++ tell r).length from by simp [tell_length]; omega, List.take_left' rfl, List.append_assoc, ← List.append_assoc]
    exact List.drop_left' (by simp [tell_length])
  have := read_yes (text t r) (by omega) t.length (by rw [hd, textL_length]; omega) hidx hget hne (by omega) hlast (by rw [x1]; exact tell_ok t) (by rw [x2]; exact tell_ok r) ⟨by omega, by omega⟩
  rw [x1, x2, tell_back, tell_back] at this
  exact this
end Go.Proofs.Ytpkpgdlbgcjloaa.Q

namespace Go.Proofs.Ytpkpgdlbgcjloaa.Q
open Go.RowKit Go.Proofs.YtpkpgdlbgcjloaaW.PrintWords Go.Proofs.YtpkpgdlbgcjloaaW.PrintLast Go.Proofs.YtpkpgdlbgcjloaaW.PrintMore
open Go.Proofs.Ytpkpgdlbgcjloaa.Pl
set_option linter.unusedVariables false
set_option linter.unusedSimpArgs false
/-- What is told of a set: the text of its tidy form, if this is not too long. -/
def Told (f : Nat → Bool) (x : ByteArray × Bool) : Prop := ∃ t r, Canon t r ∧ (∀ n, hasB t r n = f n) ∧ x = if t.length ≤ 60 ∧ r.length ≤ 60 then (text t r, true) else ((⟨#[]⟩ : ByteArray), false)
theorem Told.unique {f : Nat → Bool} {x y : ByteArray × Bool} (h : Told f x) (k : Told f y) : x = y := by
  obtain ⟨t, r, h1, h2, rfl⟩ := h
  obtain ⟨t', r', k1, k2, rfl⟩ := k
  obtain ⟨rfl, rfl⟩ := canon_unique h1 k1 (fun n => by rw [h2, k2])
  rfl
theorem Told.congr {f g : Nat → Bool} {x : ByteArray × Bool} (h : Told f x) (e : ∀ n, f n = g n) : Told g x := by
  obtain ⟨t, r, h1, h2, h3⟩ := h
  exact ⟨t, r, h1, fun n => by rw [h2, e], h3⟩
theorem Told.yes {f : Nat → Bool} {x : ByteArray × Bool} (h : Told f x) (e : x.2 = true) : ∃ t r, Canon t r ∧ Good t r ∧ (∀ n, hasB t r n = f n) ∧ x = (text t r, true) := by
  obtain ⟨t, r, h1, h2, rfl⟩ := h
  by_cases c : t.length ≤ 60 ∧ r.length ≤ 60
  · exact ⟨t, r, h1, ⟨h1.pos, c.1, c.2⟩, h2, by rw [if_pos c]⟩
  · rw [if_neg c] at e; cases e
theorem Told.no {f : Nat → Bool} {x : ByteArray × Bool} (h : Told f x) (e : x.2 = false) : x = ((⟨#[]⟩ : ByteArray), false) := by
  obtain ⟨t, r, h1, h2, rfl⟩ := h
  by_cases c : t.length ≤ 60 ∧ r.length ≤ 60
  · rw [if_pos c] at e; cases e
  · rw [if_neg c]
theorem Told.of {f : Nat → Bool} {t r : List Bool} (h : Canon t r) (g : Good t r) (e : ∀ n, hasB t r n = f n) : Told f (text t r, true) := ⟨t, r, h, e, by rw [if_pos ⟨g.tl, g.rl⟩]⟩

theorem tidied_long {t r : List Bool} (ht : t.length ≤ 1073741824) (h1 : 0 < r.length) (h2 : r.length ≤ 1073741824) : ∃ t' r', Ev (fun k => impl_set_tidy.f k t r) (t', r') ∧ Ev (fun k => spec_l1Less.f k t r) (t', r') ∧ Canon t' r' ∧ (∀ n, hasB t' r' n = hasB t r n) := by
  obtain ⟨t', r', g1, g2, g3, g4, g5⟩ := tidy_l0 t r ht h1 h2 (r.length - 1) 1 (by omega) (by omega) (fun e he1 he2 => by omega)
  obtain ⟨t2, r2, k1, k2, k3, k4, k5⟩ := less_ev (t.length + r.length) t r rfl ht h1 h2
  obtain ⟨rfl, rfl⟩ := canon_unique g2 k2 (fun n => by rw [g3, k3])
  exact ⟨t', r', g1, k1, g2, g3⟩

theorem told_eq (l : List Bool) (h : l.length ≤ 1000000) : impl_told.f l = some ⟨(tell l).toArray⟩ := by
  unfold impl_told.f
  rw [if_pos (by omega)]
  rfl
theorem tell_size (l : List Bool) : (⟨(tell l).toArray⟩ : ByteArray).size = l.length := tell_length l
theorem ba_ext {a b : ByteArray} (h : a.data.toList = b.data.toList) : a = b := by
  obtain ⟨⟨a⟩⟩ := a; obtain ⟨⟨b⟩⟩ := b; simp at h; simp [h]
theorem ba_append (a b : ByteArray) : (a ++ b).data.toList = a.data.toList ++ b.data.toList := by simp
theorem text_eq (t r : List Bool) : (((⟨(tell t).toArray⟩ : ByteArray) ++ (⟨#[40]⟩ : ByteArray)) ++ (⟨(tell r).toArray⟩ : ByteArray)) ++ (⟨#[41]⟩ : ByteArray) = text t r := by
  refine ba_ext ?_
  rw [ba_append, ba_append, ba_append]
  simp [text, textL]
theorem text_ev {t r : List Bool} (ht : t.length ≤ 60) (hr : r.length ≤ 60) : Ev (fun k => impl_set_text.f k t r) (text t r, true) := by
  unfold impl_set_text.f
  refine Ev.eq (funext fun k => if_neg (by omega)) ?_
  rw [decide_eq_false (by omega)]
  refine Ev.end fun k => ?_
  simp only [impl_set_text.j0, Bool.false_eq_true, if_false]
  rw [told_eq t (by omega), told_eq r (by omega)]
  simp only [Option.bind_some, tell_size]
  rw [if_pos (by omega), if_pos (by omega), if_pos (by omega), text_eq]
theorem text_no {t r : List Bool} (h : ¬ (t.length ≤ 60 ∧ r.length ≤ 60)) : Ev (fun k => impl_set_text.f k t r) ((⟨#[]⟩ : ByteArray), false) := by
  have go : Ev (fun k => impl_set_text.j0 k true t r) ((⟨#[]⟩ : ByteArray), false) := Ev.end fun k => by simp only [impl_set_text.j0, if_true]
  unfold impl_set_text.f
  by_cases c : (t.length : Int) > 60
  · exact Ev.eq (funext fun k => if_pos c) go
  · refine Ev.eq (funext fun k => if_neg c) ?_
    rw [decide_eq_true (by omega)]
    exact go
theorem text_told {t r : List Bool} (h : Canon t r) : ∃ x, Ev (fun k => impl_set_text.f k t r) x ∧ Told (hasB t r) x := by
  by_cases c : t.length ≤ 60 ∧ r.length ≤ 60
  · exact ⟨_, text_ev c.1 c.2, t, r, h, fun _ => rfl, by rw [if_pos c]⟩
  · exact ⟨_, text_no c, t, r, h, fun _ => rfl, by rw [if_neg c]⟩

def num (b : Bool) : Int := if b = true then 49 else 48
theorem write_step (b : Bool) {α : Type} (g : Int → Option α) : ((spec_l1Bit.f b).bind fun x => if 0 ≤ x then (if x < 2 then g (bt (⟨#[48, 49]⟩ : ByteArray) x) else none) else none) = g (num b) := by
  cases b <;> rfl
theorem write_l1 (t r : List Bool) (hr : r.length ≤ 1000000) (acc : List Int) (hacc : acc.length ≤ 1000000) (d : Nat) : ∀ i, i + d = r.length → Ev (fun k => spec_l1Write.l1 k (acc ++ (r.take i).map num) (i : Nat) t r) (strOfNums (acc ++ r.map num ++ [41])) := by
  induction d with
  | zero =>
    intro i hi
    obtain rfl : i = r.length := by omega
    refine Ev.end fun k => ?_
    simp only [spec_l1Write.l1]
    rw [List.take_of_length_le (Nat.le_refl _), if_neg (by omega), if_pos (by simp; omega)]
  | succ d ih =>
    intro i hi
    have hg : r.take (i + 1) = r.take i ++ [r.getD i false] := by
      rw [List.take_succ_eq_append_getElem (by omega)]; simp [List.getD, List.getElem?_eq_getElem (show i < r.length by omega)]
    refine Ev.step (fun k => ?_) (ih (i + 1) (by omega))
    simp only [spec_l1Write.l1]
    rw [if_pos (by omega), if_pos (by omega), rdOf_nat, write_step (r.getD i false) (fun v => if (acc ++ (r.take i).map num).length < 140737488355328 then spec_l1Write.l1 k ((acc ++ (r.take i).map num) ++ [v]) (wrap64 ((i : Int) + 1)) t r else none)]
    rw [if_pos (by simp; omega), wr1 (by omega), hg, List.map_append, List.append_assoc]
    rfl
theorem write_l0 (t r : List Bool) (ht : t.length ≤ 100000) (hr : r.length ≤ 1000000) (d : Nat) : ∀ i, i + d = t.length → Ev (fun k => spec_l1Write.l0 k ((t.take i).map num) (i : Nat) t r) (strOfNums (t.map num ++ [40] ++ r.map num ++ [41])) := by
  induction d with
  | zero =>
    intro i hi
    obtain rfl : i = t.length := by omega
    have := write_l1 t r hr (t.map num ++ [40]) (by simp; omega) r.length 0 (by omega)
    refine Ev.step (fun k => ?_) this
    simp only [spec_l1Write.l0]
    rw [List.take_of_length_le (Nat.le_refl _), if_neg (by omega), if_pos (by simp; omega), List.take_zero, List.map_nil, List.append_nil]
    rfl
  | succ d ih =>
    intro i hi
    have hg : t.take (i + 1) = t.take i ++ [t.getD i false] := by
      rw [List.take_succ_eq_append_getElem (by omega)]; simp [List.getD, List.getElem?_eq_getElem (show i < t.length by omega)]
    refine Ev.step (fun k => ?_) (ih (i + 1) (by omega))
    simp only [spec_l1Write.l0]
    rw [if_pos (by omega), if_pos (by omega), rdOf_nat, write_step (t.getD i false) (fun v => if ((t.take i).map num).length < 140737488355328 then spec_l1Write.l0 k (((t.take i).map num) ++ [v]) (wrap64 ((i : Int) + 1)) t r else none)]
    rw [if_pos (by simp; omega), wr1 (by omega), hg, List.map_append]
    rfl
theorem num_byte (l : List Bool) : (l.map num).map (fun n : Int => UInt8.ofNat n.toNat) = tell l := by
  induction l with
  | nil => rfl
  | cons b l ih => simp only [List.map_cons, ih, tell]; cases b <;> rfl
theorem str_text (t r : List Bool) : strOfNums (t.map num ++ [40] ++ r.map num ++ [41]) = text t r := by
  unfold strOfNums text textL
  rw [List.map_append, List.map_append, List.map_append, num_byte, num_byte]
  simp
theorem write_ev {t r : List Bool} (ht : t.length ≤ 60) (hr : r.length ≤ 60) : Ev (fun k => spec_l1Write.f k t r) (text t r) := by
  have := write_l0 t r (by omega) (by omega) t.length 0 (by omega)
  rw [str_text] at this
  exact this
theorem done_told {t r : List Bool} (ht : t.length ≤ 1073741824) (h1 : 0 < r.length) (h2 : r.length ≤ 1073741824) : ∃ x, Ev (fun k => spec_l1Done.f k t r) x ∧ Told (hasB t r) x := by
  obtain ⟨t', r', g1, g2, g3, g4⟩ := tidied_long ht h1 h2
  unfold spec_l1Done.f
  by_cases c1 : t'.length ≤ 60
  · by_cases c2 : r'.length ≤ 60
    · refine ⟨(text t' r', true), Ev.bind g2 (Ev.eq (funext fun k => if_neg (by show ¬ (t'.length : Int) > 60; omega)) (Ev.eq (funext fun k => if_neg (by show ¬ (r'.length : Int) > 60; omega)) (Ev.bind (write_ev c1 c2) (Ev.now _)))), t', r', g3, g4, by rw [if_pos ⟨c1, c2⟩]⟩
    · refine ⟨((⟨#[]⟩ : ByteArray), false), Ev.bind g2 (Ev.eq (funext fun k => if_neg (by show ¬ (t'.length : Int) > 60; omega)) (Ev.eq (funext fun k => if_pos (by show (r'.length : Int) > 60; omega)) (Ev.now _))), t', r', g3, g4, by rw [if_neg (fun h => c2 h.2)]⟩
  · refine ⟨((⟨#[]⟩ : ByteArray), false), Ev.bind g2 (Ev.eq (funext fun k => if_pos (by show (t'.length : Int) > 60; omega)) (Ev.now _)), t', r', g3, g4, by rw [if_neg (fun h => c1 h.1)]⟩
theorem fill_told {l : List Bool} {m : Nat} (hl : l.length ≤ 1073741824) (hm : m < l.length) : ∃ x, Ev (fun k => spec_l2Fill.f k l m) x ∧ Told (hasB (l.take m) (l.drop m)) x := by
  obtain ⟨x, h1, h2⟩ := done_told (t := l.take m) (r := l.drop m) (by rw [List.length_take]; omega) (by rw [List.length_drop]; omega) (by rw [List.length_drop]; omega)
  refine ⟨x, ?_, h2⟩
  unfold spec_l2Fill.f
  refine Ev.eq (funext fun k => if_pos (by omega)) (Ev.eq (funext fun k => if_pos (by omega)) ?_)
  simp only [Int.toNat_natCast]
  exact Ev.bind h1 (Ev.now _)

theorem per_of {f : Nat → Bool} {from_ size : Nat} (h1 : 1 ≤ size) (hp : ∀ n, from_ ≤ n → f (n + size) = f n) (n : Nat) : hasB ((List.range from_).map f) ((List.range size).map fun i => f (from_ + i)) n = f n := by
  have e1 : ((List.range from_).map f).length = from_ := by simp
  have e2 : ((List.range size).map fun i => f (from_ + i)).length = size := by simp
  rcases Nat.lt_or_ge n from_ with c | c
  · rw [hasB_lt (by rw [e1]; exact c)]
    simp [List.getD, c]
  · rw [hasB_ge (by rw [e1]; exact c), e1, e2]
    have hm := Nat.mod_lt (n - from_) h1
    have hd := Nat.div_add_mod (n - from_) size
    have hq : ∀ q m, from_ ≤ m → f (m + q * size) = f m := by
      intro q
      induction q with
      | zero => intro m _; simp
      | succ q ih => intro m hm; rw [Nat.succ_mul, ← Nat.add_assoc, hp _ (by omega), ih m hm]
    simp only [List.getD, List.getElem?_map, List.getElem?_range hm, Option.map_some, Option.getD_some]
    rw [← hq ((n - from_) / size) (from_ + (n - from_) % size) (by omega), Nat.mul_comm]
    congr 1
    omega
theorem range_snoc (f : Nat → Bool) (i : Nat) : (List.range (i + 1)).map f = (List.range i).map f ++ [f i] := by rw [List.range_succ, List.map_append]; rfl
theorem made_l1 (f : Nat → Bool) (from_ size : Nat) (hb : from_ ≤ 1000000 ∧ size ≤ 1000000) (p : Int → Option Bool) (hp : ∀ n : Nat, n < from_ + size → p n = some (f n)) (T : List Bool) {x : ByteArray × Bool}
    (hx : Ev (fun k => (impl_set_tidy.f k T ((List.range size).map fun i => f (from_ + i))).bind fun b => (impl_set_text.f k b.1 b.2).bind fun c => some (c.1, c.2)) x) (d : Nat) :
    ∀ i, i + d = size → Ev (fun k => impl_made.l1 p k from_ size (i : Nat) T ((List.range i).map fun i => f (from_ + i))) x := by
  induction d with
  | zero =>
    intro i hi
    obtain rfl : i = size := by omega
    refine Ev.step (fun k => ?_) hx
    simp only [impl_made.l1]
    rw [if_neg (by omega)]
  | succ d ih =>
    intro i hi
    refine Ev.step (fun k => ?_) (ih (i + 1) (by omega))
    simp only [impl_made.l1]
    rw [if_pos (by omega), wr (x := (from_ : Int) + (i : Int)) (by omega) (by omega), show (from_ : Int) + (i : Int) = ((from_ + i : Nat) : Int) from by omega, hp _ (by omega)]
    simp only [Option.bind_some]
    rw [if_pos (by simp; omega), wr1 (by omega), range_snoc (fun i => f (from_ + i))]
theorem made_l0 (f : Nat → Bool) (from_ size : Nat) (hb : from_ ≤ 1000000 ∧ size ≤ 1000000) (p : Int → Option Bool) (hp : ∀ n : Nat, n < from_ + size → p n = some (f n)) {x : ByteArray × Bool}
    (hx : Ev (fun k => impl_made.l1 p k from_ size 0 ((List.range from_).map f) ([] : List Bool)) x) (d : Nat) :
    ∀ i, i + d = from_ → Ev (fun k => impl_made.l0 p k from_ size from_ (i : Nat) ((List.range i).map f)) x := by
  induction d with
  | zero =>
    intro i hi
    obtain rfl : i = from_ := by omega
    refine Ev.step (fun k => ?_) hx
    simp only [impl_made.l0]
    rw [if_neg (by omega)]
  | succ d ih =>
    intro i hi
    refine Ev.step (fun k => ?_) (ih (i + 1) (by omega))
    simp only [impl_made.l0]
    rw [if_pos (by omega), hp _ (by omega)]
    simp only [Option.bind_some]
    rw [if_pos (by simp; omega), wr1 (by omega), range_snoc f]
theorem made_ev {f : Nat → Bool} {from_ size : Nat} (h1 : 1 ≤ size) (hb : from_ ≤ 1000000 ∧ size ≤ 1000000) (hper : ∀ n, from_ ≤ n → f (n + size) = f n) {P : Nat → Int → Option Bool} (hP : ∀ n : Nat, n < from_ + size → Ev (fun k => P k n) (f n)) :
    ∃ x, Ev (fun k => impl_made.f k from_ size (P k)) x ∧ Told f x := by
  have e2 : ((List.range size).map fun i => f (from_ + i)).length = size := by simp
  obtain ⟨t, r, g1, g2, g3, g4⟩ := tidied_long (t := (List.range from_).map f) (r := (List.range size).map fun i => f (from_ + i)) (by simp; omega) (by rw [e2]; omega) (by rw [e2]; omega)
  obtain ⟨x, k1, k2⟩ := text_told g3
  refine ⟨x, ?_, k2.congr fun n => by rw [g4, per_of h1 hper]⟩
  -- the question, told once
  let p0 : Int → Option Bool := fun n => if 0 ≤ n ∧ n < (from_ + size : Nat) then some (f n.toNat) else none
  have hp0 : ∀ n : Nat, n < from_ + size → p0 n = some (f n) := by
    intro n hn
    show (if 0 ≤ (n : Int) ∧ (n : Int) < (from_ + size : Nat) then some (f (n : Int).toNat) else none) = _
    rw [if_pos ⟨by omega, by omega⟩, Int.toNat_natCast]
  have h0 : Ev (fun k => impl_made.f k from_ size p0) x := by
    have a1 := made_l1 f from_ size hb p0 hp0 ((List.range from_).map f) (x := x) (Ev.bind g1 (Ev.bind k1 (Ev.now _))) size 0 (by omega)
    exact made_l0 f from_ size hb p0 hp0 a1 from_ 0 (by omega)
  -- all of P's answers from one number of rounds on
  have hK : ∀ N, N ≤ from_ + size → ∃ K, ∀ k, K ≤ k → ∀ n : Nat, n < N → P k n = some (f n) := by
    intro N
    induction N with
    | zero => intro _; exact ⟨0, fun k _ n hn => absurd hn (Nat.not_lt_zero n)⟩
    | succ N ih =>
      intro hN
      obtain ⟨K, hK⟩ := ih (by omega)
      obtain ⟨L, hL⟩ := hP N (by omega)
      refine ⟨max K L, fun k hk n hn => ?_⟩
      rcases Nat.lt_or_ge n N with c | c
      · exact hK k (by omega) n c
      · obtain rfl : n = N := by omega
        exact hL k (by omega)
  obtain ⟨K, hK⟩ := hK _ (Nat.le_refl _)
  obtain ⟨L, hL⟩ := h0
  refine ⟨max K L + 1, fun k hk => ?_⟩
  obtain ⟨m, rfl⟩ : ∃ m, k = m + 1 := ⟨k - 1, by omega⟩
  refine impl_made.mono p0 (P (m + 1)) (fun n q hq => ?_) (from_ : Int) (size : Int) m x (hL m (by omega))
  have hq' : (if 0 ≤ n ∧ n < (from_ + size : Nat) then some (f n.toNat) else none) = some q := hq
  by_cases c : 0 ≤ n ∧ n < (from_ + size : Nat)
  · rw [if_pos c] at hq'
    have := hK (m + 1) (by omega) n.toNat (by omega)
    rw [Int.toNat_of_nonneg c.1] at this
    rw [this]; exact hq'
  · rw [if_neg c] at hq'; cases hq'


theorem gcd_ev (b : Nat) : ∀ a : Nat, Ev (fun k => impl_gcd.f k (a : Int) (b : Int)) ((Nat.gcd a b : Nat) : Int) := by
  induction b using Nat.strongRecOn with
  | _ b ih =>
    intro a
    by_cases c : b = 0
    · subst c
      refine Ev.end fun k => ?_
      simp only [impl_gcd.f, impl_gcd.l0]
      rw [if_pos (by omega), Nat.gcd_zero_right]
    · have h1 := ih (a % b) (Nat.mod_lt _ (by omega)) b
      rw [Nat.gcd_comm b, ← Nat.gcd_rec, Nat.gcd_comm] at h1
      refine Ev.step (fun k => ?_) h1
      simp only [impl_gcd.f, impl_gcd.l0]
      rw [if_neg (by omega), tmod_nat]


theorem lcm_ev {p q : Nat} (hp : 1 ≤ p) (hp2 : p ≤ 60) (hq2 : q ≤ 60) : Ev (fun k => impl_lcm.f k (p : Int) (q : Int)) ((Nat.lcm p q : Nat) : Int) := by
  have hg : 0 < Nat.gcd p q := Nat.gcd_pos_of_pos_left _ hp
  have hd := Nat.div_le_self p (Nat.gcd p q)
  have hm : p / Nat.gcd p q * q ≤ 60 * 60 := Nat.mul_le_mul (by omega) hq2
  have he := lcm_eq p q
  unfold impl_lcm.f
  refine Ev.bind (gcd_ev q p) (Ev.const fun k => ?_)
  rw [if_neg (by omega), tdiv_nat]
  generalize Nat.gcd p q = g at *
  generalize p / g = a at *
  rw [wr (x := (a : Int)) (by omega) (by omega), ← Int.natCast_mul, he, wr (by omega) (by omega)]
/-- Marks of a set that comes again from m on, cut there. -/
theorem fill_tells {l : List Bool} {f : Nat → Bool} {m N : Nat} (hl : Tells l f N) (hm : m < N) (hN : N ≤ 1073741824) (hper : ∀ n, m ≤ n → f (n + (N - m)) = f n) : ∃ x, Ev (fun k => spec_l2Fill.f k l m) x ∧ Told f x := by
  obtain ⟨x, h1, h2⟩ := fill_told (l := l) (m := m) (by rw [hl.len]; exact hN) (by rw [hl.len]; exact hm)
  refine ⟨x, h1, h2.congr fun n => ?_⟩
  have e1 : l.take m = (List.range m).map f := by
    refine ext_getD (by simp [hl.len]; omega) fun i hi => ?_
    have hi2 : i < m := by simp [hl.len] at hi; omega
    rw [getD_take hi2, hl.get i (by omega)]
    simp [List.getD, hi2]
  have e2 : l.drop m = (List.range (N - m)).map fun i => f (m + i) := by
    refine ext_getD (by simp [hl.len]) fun i hi => ?_
    have hi2 : i < N - m := by simp [hl.len] at hi; omega
    have := hl.get (m + i) (by omega)
    simp only [List.getD, List.getElem?_drop, List.getElem?_map, List.getElem?_range hi2, Option.map_some, Option.getD_some] at this ⊢
    exact this
  rw [e1, e2]
  exact per_of (by omega) hper n

/-- The least number greater than 0, or 0 without one. -/
structure Least (t r : List Bool) (m : Nat) : Prop where
  cases : (m = 0 ∧ ∀ z, 1 ≤ z → hasB t r z = false) ∨ (1 ≤ m ∧ m ≤ t.length + r.length ∧ hasB t r m = true ∧ ∀ z, 1 ≤ z → z < m → hasB t r z = false)
theorem Least.unique {t r : List Bool} {m m' : Nat} (h : Least t r m) (k : Least t r m') : m = m' := by
  rcases h.cases with ⟨h1, h2⟩ | ⟨h1, h2, h3, h4⟩
  · rcases k.cases with ⟨k1, k2⟩ | ⟨k1, k2, k3, k4⟩
    · omega
    · rw [h2 m' k1] at k3; cases k3
  · rcases k.cases with ⟨k1, k2⟩ | ⟨k1, k2, k3, k4⟩
    · rw [k2 m h1] at h3; cases h3
    · rcases Nat.lt_trichotomy m m' with c | c | c
      · rw [k4 m h1 c] at h3; cases h3
      · exact c
      · rw [h4 m' k1 c] at k3; cases k3
theorem least_impl_l0 {t r : List Bool} (h : Good t r) (d : Nat) : ∀ i, i + d = t.length + r.length + 1 → 1 ≤ i → (∀ z, 1 ≤ z → z < i → hasB t r z = false) → ∃ m, Least t r m ∧ Ev (fun k => impl_set_least.l0 k (i : Nat) t r) ((m : Nat) : Int) := by
  have h2 := h.tl
  have h3 := h.rl
  have hw : wrap64 ((t.length : Int) + (r.length : Int)) = ((t.length + r.length : Nat) : Int) := by rw [wr (by omega) (by omega)]; omega
  induction d with
  | zero =>
    intro i hi h1 hno
    refine ⟨0, ⟨.inl ⟨rfl, none_far h.pos fun z z1 z2 => hno z z1 (by omega)⟩⟩, Ev.end fun k => ?_⟩
    simp only [impl_set_least.l0, hw]
    rw [if_neg (by omega)]
    rfl
  | succ d ih =>
    intro i hi h1 hno
    cases c : hasB t r i with
    | true =>
      refine ⟨i, ⟨.inr ⟨h1, by omega, c, hno⟩⟩, Ev.end fun k => ?_⟩
      simp only [impl_set_least.l0, hw]
      rw [if_pos (by omega), set_has h i (by omega), c]
      rfl
    | false =>
      obtain ⟨m, m1, m2⟩ := ih (i + 1) (by omega) (by omega) (fun z z1 z2 => by
        rcases Nat.lt_or_ge z i with e | e
        · exact hno z z1 e
        · obtain rfl : z = i := by omega
          exact c)
      refine ⟨m, m1, Ev.step (fun k => ?_) m2⟩
      simp only [impl_set_least.l0, hw]
      rw [if_pos (by omega), set_has h i (by omega), c]
      simp only [Option.bind_some, Bool.false_eq_true, if_false]
      rw [wr1 (by omega)]
theorem least_spec_l0 {t r : List Bool} (h : Good t r) (hs : t.length + r.length ≤ 20) (d : Nat) : ∀ i, i + d = 21 → 1 ≤ i → (∀ z, 1 ≤ z → z < i → hasB t r z = false) → ∃ m, Least t r m ∧ Ev (fun k => spec_l4Least.l0 k (i : Nat) t r) ((m : Nat) : Int) := by
  induction d with
  | zero =>
    intro i hi h1 hno
    refine ⟨0, ⟨.inl ⟨rfl, none_far h.pos fun z z1 z2 => hno z z1 (by omega)⟩⟩, Ev.end fun k => ?_⟩
    simp only [spec_l4Least.l0]
    rw [if_neg (by omega)]
    rfl
  | succ d ih =>
    intro i hi h1 hno
    cases c : hasB t r i with
    | true =>
      refine ⟨i, ⟨.inr ⟨h1, ?_, c, hno⟩⟩, Ev.end fun k => ?_⟩
      · rcases Nat.lt_or_ge (t.length + r.length) i with e | e
        · rw [none_far h.pos (fun z z1 z2 => hno z z1 (by omega)) i h1] at c; cases c
        · exact e
      · simp only [spec_l4Least.l0]
        rw [if_pos (by omega), l1_has h i (by omega), c]
        rfl
    | false =>
      obtain ⟨m, m1, m2⟩ := ih (i + 1) (by omega) (by omega) (fun z z1 z2 => by
        rcases Nat.lt_or_ge z i with e | e
        · exact hno z z1 e
        · obtain rfl : z = i := by omega
          exact c)
      refine ⟨m, m1, Ev.step (fun k => ?_) m2⟩
      simp only [spec_l4Least.l0]
      rw [if_pos (by omega), l1_has h i (by omega), c]
      simp only [Option.bind_some, Bool.false_eq_true, if_false]
      rw [wr1 (by omega)]
theorem least_both {t r : List Bool} (h : Good t r) (hs : t.length + r.length ≤ 20) : ∃ m, Least t r m ∧ Ev (fun k => impl_set_least.f k t r) ((m : Nat) : Int) ∧ Ev (fun k => spec_l4Least.f k t r) ((m : Nat) : Int) := by
  obtain ⟨m, a1, a2⟩ := least_impl_l0 h (t.length + r.length) 1 (by omega) (by omega) (fun z z1 z2 => by omega)
  obtain ⟨m', b1, b2⟩ := least_spec_l0 h hs 20 1 (by omega) (by omega) (fun z z1 z2 => by omega)
  obtain rfl := a1.unique b1
  exact ⟨m, a1, a2, b2⟩

structure Parts (f : Nat → Bool) (ps : List Nat) (x : Nat) : Prop where
  all : ∀ q ∈ ps, 1 ≤ q ∧ q < x ∧ f q = true
  some : ∀ y, 1 ≤ y → y < x → f y = true → ∃ q ∈ ps, q ≤ y ∧ star f (y - q) = true
  few : ps.length ≤ x
theorem parts_star {f : Nat → Bool} {ps : List Nat} {x : Nat} (h : Parts f ps x) (hx : 1 ≤ x) : star f x = true ↔ (∃ q ∈ ps, star f (x - q) = true) ∨ f x = true := by
  constructor
  · intro hs
    obtain ⟨y, a, b, c, d⟩ := (star_iff f hx).1 hs
    rcases Nat.lt_or_ge y x with e | e
    · obtain ⟨q, q1, q2, q3⟩ := h.some y a e c
      refine .inl ⟨q, q1, ?_⟩
      have := star_add (y - q) (x - y) q3 d
      rwa [show y - q + (x - y) = x - q from by omega] at this
    · obtain rfl : y = x := by omega
      exact .inr c
  · rintro (⟨q, q1, q2⟩ | hf)
    · obtain ⟨a, b, c⟩ := h.all q q1
      exact (star_iff f hx).2 ⟨q, a, by omega, c, q2⟩
    · exact (star_iff f hx).2 ⟨x, hx, Nat.le_refl _, hf, by rw [Nat.sub_self]; exact star_zero f⟩
theorem rd_cast (ps : List Nat) (i : Nat) (h : i < ps.length) : rd (ps.map fun y : Nat => (y : Int)) (i : Int) = ((ps[i] : Nat) : Int) := by
  simp [rd, List.getD, h]
theorem star4_l1 {t r : List Bool} (N x : Nat) (hN : N ≤ 1000000) (hx : x < N) (ps : List Nat) (hps : Parts (hasB t r) ps x) (Q : List Bool → Prop)
    (hend : ∀ l, l.length = N → (∀ j, j < x → l.getD j false = star (hasB t r) j) → (∀ j, x < j → l.getD j false = false) → (l.getD x false = true ↔ ∃ q ∈ ps, star (hasB t r) (x - q) = true) → ∃ l', Ev (fun k => spec_l4Star.j2 k N l (ps.map fun y : Nat => (y : Int)) x t r) l' ∧ Q l') (d : Nat) :
    ∀ (i : Nat) (l : List Bool), i + d = ps.length → l.length = N → (∀ j, j < x → l.getD j false = star (hasB t r) j) → (∀ j, x < j → l.getD j false = false) → (l.getD x false = true → ∃ q ∈ ps, star (hasB t r) (x - q) = true) → (l.getD x false = false → ∀ j, j < i → ∀ h : j < ps.length, star (hasB t r) (x - ps[j]) = false) →
      ∃ l', Ev (fun k => spec_l4Star.l1 k N l (ps.map fun y : Nat => (y : Int)) x (i : Nat) t r) l' ∧ Q l' := by
  have fin : ∀ l : List Bool, l.length = N → (∀ j, j < x → l.getD j false = star (hasB t r) j) → (∀ j, x < j → l.getD j false = false) → (l.getD x false = true ↔ ∃ q ∈ ps, star (hasB t r) (x - q) = true) → ∀ i : Nat, (i < ps.length → l.getD x false = true) → ∃ l', Ev (fun k => spec_l4Star.l1 k N l (ps.map fun y : Nat => (y : Int)) x (i : Nat) t r) l' ∧ Q l' := by
    intro l h1 h2 h3 h4 i hi
    obtain ⟨l', k1, k2⟩ := hend l h1 h2 h3 h4
    refine ⟨l', Ev.step (fun k => ?_) k1, k2⟩
    simp only [spec_l4Star.l1, List.length_map]
    by_cases c : i < ps.length
    · rw [if_pos (by omega), if_pos (by omega), if_pos (by omega), rdOf_nat, hi c, if_pos rfl]
    · rw [if_neg (by omega)]
  induction d with
  | zero =>
    intro i l hi h1 h2 h3 h4 h5
    refine fin l h1 h2 h3 ⟨h4, ?_⟩ i (fun h => by omega)
    rintro ⟨q, q1, q2⟩
    cases c : l.getD x false with
    | true => rfl
    | false =>
      obtain ⟨j, hj, rfl⟩ := List.getElem_of_mem q1
      rw [h5 c j (by omega) hj] at q2; cases q2
  | succ d ih =>
    intro i l hi h1 h2 h3 h4 h5
    cases c : l.getD x false with
    | true => exact fin l h1 h2 h3 ⟨h4, fun _ => c⟩ i (fun _ => c)
    | false =>
      have hil : i < ps.length := by omega
      have hfew := hps.few
      obtain ⟨a1, a2, a3⟩ := hps.all ps[i] (List.getElem_mem hil)
      have hw : wrap64 ((x : Int) - ((ps[i] : Nat) : Int)) = ((x - ps[i] : Nat) : Int) := wrs (by omega) (by omega)
      have hv := h2 (x - ps[i]) (by omega)
      obtain ⟨l', k1, k2⟩ := ih (i + 1) (l.set x (star (hasB t r) (x - ps[i]))) (by omega) (by rw [List.length_set, h1]) (fun j hj => by rw [getD_set_ne _ _ (by omega)]; exact h2 j hj) (fun j hj => by rw [getD_set_ne _ _ (by omega)]; exact h3 j hj)
        (by rw [getD_set_self _ _ _ (by omega)]; intro h; exact ⟨ps[i], List.getElem_mem hil, h⟩)
        (by
          rw [getD_set_self _ _ _ (by omega)]
          intro h j hj hjl
          rcases Nat.lt_or_ge j i with e | e
          · exact h5 c j e hjl
          · obtain rfl : j = i := by omega
            exact h)
      refine ⟨l', Ev.step (fun k => ?_) k1, k2⟩
      simp only [spec_l4Star.l1, List.length_map]
      rw [if_pos (by omega), if_pos (by omega), if_pos (by omega), rdOf_nat, c, if_neg (by simp), if_pos (by omega), rd_cast ps i hil, hw, if_pos (by omega), if_pos (by omega), rdOf_nat, hv, wr1 (by omega), Int.toNat_natCast]
theorem star4_l0 {t r : List Bool} (h : Good t r) (N : Nat) (hN : N ≤ 1000000) (d : Nat) : ∀ (x : Nat) (l : List Bool) (ps : List Nat), x + d = N → l.length = N → (∀ j, j < x → l.getD j false = star (hasB t r) j) → (∀ j, x ≤ j → l.getD j false = false) → Parts (hasB t r) ps x →
    ∃ l', Ev (fun k => spec_l4Star.l0 k N l (ps.map fun y : Nat => (y : Int)) (x : Nat) t r) l' ∧ Tells l' (star (hasB t r)) N := by
  induction d with
  | zero =>
    intro x l ps hx h1 h2 h3 h4
    refine ⟨l, Ev.end fun k => ?_, h1, fun j hj => h2 j (by omega)⟩
    simp only [spec_l4Star.l0]
    rw [if_neg (by omega)]
  | succ d ih =>
    intro x l ps hx h1 h2 h3 h4
    have hfew := h4.few
    have go := star4_l1 (t := t) (r := r) N x hN (by omega) ps h4 (fun l' => Tells l' (star (hasB t r)) N) ?_ ps.length 0 l (by omega) h1 h2 (fun j hj => h3 j (by omega)) (by rw [h3 x (Nat.le_refl _)]; intro e; cases e) (fun _ j hj => by omega)
    · obtain ⟨l', k1, k2⟩ := go
      refine ⟨l', Ev.step (fun k => ?_) k1, k2⟩
      simp only [spec_l4Star.l0]
      rw [if_pos (by omega)]
      rfl
    · intro m g1 g2 g3 g4
      rcases Nat.eq_zero_or_pos x with e0 | e0
      · subst e0
        obtain ⟨l', k1, k2⟩ := ih 1 (m.set 0 true) ps (by omega) (by rw [List.length_set, g1]) (fun j hj => by
            obtain rfl : j = 0 := by omega
            rw [getD_set_self _ _ _ (by omega)]; exact (star_zero _).symm) (fun j hj => by rw [getD_set_ne _ _ (by omega)]; exact g3 j (by omega))
          ⟨fun q hq => by have := h4.all q hq; omega, fun y y1 y2 => by omega, by omega⟩
        refine ⟨l', Ev.step (fun k => ?_) k1, k2⟩
        simp only [spec_l4Star.j2]
        rw [if_pos (by omega), if_pos (by omega), wr1 (by omega)]
        rfl
      · have hps := parts_star h4 e0
        cases c : m.getD x false with
        | true =>
          have hs : star (hasB t r) x = true := hps.2 (.inl (g4.1 c))
          obtain ⟨l', k1, k2⟩ := ih (x + 1) m ps (by omega) g1 (fun j hj => by
              rcases Nat.lt_or_ge j x with e | e
              · exact g2 j e
              · obtain rfl : j = x := by omega
                rw [c, hs]) (fun j hj => g3 j (by omega))
            ⟨fun q hq => by have := h4.all q hq; exact ⟨this.1, by omega, this.2.2⟩, fun y y1 y2 y3 => by
              rcases Nat.lt_or_ge y x with e | e
              · exact h4.some y y1 e y3
              · obtain rfl : y = x := by omega
                obtain ⟨q, q1, q2⟩ := g4.1 c
                exact ⟨q, q1, by have := h4.all q q1; omega, q2⟩, by omega⟩
          refine ⟨l', Ev.step (fun k => ?_) k1, k2⟩
          simp only [spec_l4Star.j2]
          rw [if_neg (by omega), if_pos (by omega), if_pos (by omega), rdOf_nat, c, if_pos rfl, wr1 (by omega)]
        | false =>
          have hno : ¬ ∃ q ∈ ps, star (hasB t r) (x - q) = true := fun k => by rw [g4.2 k] at c; cases c
          cases cf : hasB t r x with
          | true =>
            have hs : star (hasB t r) x = true := hps.2 (.inr cf)
            obtain ⟨l', k1, k2⟩ := ih (x + 1) (m.set x true) (ps ++ [x]) (by omega) (by rw [List.length_set, g1]) (fun j hj => by
                rcases Nat.lt_or_ge j x with e | e
                · rw [getD_set_ne _ _ (by omega)]; exact g2 j e
                · obtain rfl : j = x := by omega
                  rw [getD_set_self _ _ _ (by omega), hs]) (fun j hj => by rw [getD_set_ne _ _ (by omega)]; exact g3 j (by omega))
              ⟨fun q hq => by
                rcases List.mem_append.1 hq with k | k
                · have := h4.all q k; exact ⟨this.1, by omega, this.2.2⟩
                · obtain rfl : q = x := by simpa using k
                  exact ⟨e0, by omega, cf⟩, fun y y1 y2 y3 => by
                rcases Nat.lt_or_ge y x with e | e
                · obtain ⟨q, q1, q2⟩ := h4.some y y1 e y3
                  exact ⟨q, List.mem_append_left _ q1, q2⟩
                · obtain rfl : y = x := by omega
                  exact ⟨y, List.mem_append_right _ (by simp), Nat.le_refl _, by rw [Nat.sub_self]; exact star_zero _⟩, by rw [List.length_append]; simp; omega⟩
            refine ⟨l', Ev.step (fun k => ?_) k1, k2⟩
            simp only [spec_l4Star.j2]
            rw [if_neg (by omega), if_pos (by omega), if_pos (by omega), rdOf_nat, c, if_neg (by simp), l1_has h x (by omega), cf]
            simp only [Option.bind_some, if_true, List.length_map]
            rw [if_pos (by omega), wr1 (by omega), Int.toNat_natCast, List.map_append]
            rfl
          | false =>
            have hs : star (hasB t r) x = false := by
              cases e : star (hasB t r) x with
              | false => rfl
              | true =>
                rcases hps.1 e with k | k
                · exact absurd k hno
                · rw [cf] at k; cases k
            obtain ⟨l', k1, k2⟩ := ih (x + 1) m ps (by omega) g1 (fun j hj => by
                rcases Nat.lt_or_ge j x with e | e
                · exact g2 j e
                · obtain rfl : j = x := by omega
                  rw [c, hs]) (fun j hj => g3 j (by omega))
              ⟨fun q hq => by have := h4.all q hq; exact ⟨this.1, by omega, this.2.2⟩, (fun y y1 y2 y3 => by
                rcases Nat.lt_or_ge y x with e | e
                · exact h4.some y y1 e y3
                · obtain rfl : y = x := by omega
                  rw [cf] at y3; cases y3), by omega⟩
            refine ⟨l', Ev.step (fun k => ?_) k1, k2⟩
            simp only [spec_l4Star.j2]
            rw [if_neg (by omega), if_pos (by omega), if_pos (by omega), rdOf_nat, c, if_neg (by simp), l1_has h x (by omega), cf]
            simp only [Option.bind_some, Bool.false_eq_true, if_false]
            rw [wr1 (by omega)]
theorem star4_ev {t r : List Bool} (h : Good t r) (N : Nat) (hN : N ≤ 1000000) : ∃ l, Ev (fun k => spec_l4Star.f k t r N) l ∧ Tells l (star (hasB t r)) N := by
  obtain ⟨l, k1, k2⟩ := star4_l0 h N hN N 0 (List.replicate N false) [] (by omega) (by simp) (fun j hj => by omega) (fun j _ => by
      simp only [List.getD, List.getElem?_replicate]
      split <;> rfl) ⟨(fun q hq => by cases hq), (fun y y1 y2 => by omega), by simp⟩
  refine ⟨l, ?_, k2⟩
  unfold spec_l4Star.f
  refine Ev.eq (funext fun k => if_pos (by omega)) (Ev.eq (funext fun k => if_pos (by omega)) ?_)
  rw [Int.toNat_natCast]
  exact k1

/-- The star, with what is told of 0. -/
def starZ (f : Nat → Bool) (z : Bool) (n : Nat) : Bool := if n = 0 then z else star f n
theorem starZ_true (f : Nat → Bool) (n : Nat) : starZ f true n = star f n := by
  unfold starZ
  split
  · subst_vars; exact (star_zero f).symm
  · rfl
theorem starZ_pos {f : Nat → Bool} {z : Bool} {n : Nat} (h : 1 ≤ n) : starZ f z n = star f n := by unfold starZ; rw [if_neg (by omega)]
theorem starred_p {t r l : List Bool} {z : List Bool → List Bool → Option Bool} {b : Bool} (hz : z t r = some b) {N : Nat} (hl : Tells l (star (hasB t r)) N) (n : Nat) (hn : n < N) : impl_starred.p z t r l n = some (starZ (hasB t r) b n) := by
  unfold impl_starred.p starZ
  by_cases c : n = 0
  · subst c
    rw [if_pos (show ((0 : Nat) : Int) = 0 from rfl), hz]
    rfl
  · rw [if_neg (by omega), if_neg c, if_pos (by omega), if_pos (by rw [hl.len]; omega), rdOf_nat, hl.get n hn]
theorem starred_ev {s : ByteArray} {t r : List Bool} (h : IsSmall s t r) {z : List Bool → List Bool → Option Bool} {b : Bool} (hz : z t r = some b) : ∃ x, Ev (fun k => impl_starred.f k s z) x ∧ Told (starZ (hasB t r) b) x := by
  have t1 := h.tl
  have r1 := h.rl
  obtain ⟨m, m1, m2, _⟩ := least_both h.good (by omega)
  have main : ∀ q : Nat, 1 ≤ q → q ≤ 16 → (∀ n, 1000 ≤ n → starZ (hasB t r) b (n + q) = starZ (hasB t r) b n) → ∃ x, Ev (fun k => impl_starred.g k t r z (q : Int)) x ∧ Told (starZ (hasB t r) b) x := by
    intro q q1 q2 hper
    obtain ⟨l, l1, l2⟩ := star_ev h.good (1000 + q) (by omega)
    obtain ⟨x, x1, x2⟩ := made_ev (f := starZ (hasB t r) b) (from_ := 1000) (size := q) q1 ⟨by omega, by omega⟩ hper (P := fun _ => impl_starred.p z t r l) (fun n hn => by
      have := starred_p hz l2 n hn
      exact Ev.const fun _ => this)
    refine ⟨x, ?_, x2⟩
    unfold impl_starred.g
    have e : (1000 + (q : Int)) = ((1000 + q : Nat) : Int) := by omega
    rw [e]
    exact Ev.bind l1 x1
  rcases m1.cases with ⟨c1, c2⟩ | ⟨c1, c2, c3, c4⟩
  · subst c1
    obtain ⟨x, x1, x2⟩ := main 1 (by omega) (by omega) (fun n hn => by
      rw [starZ_pos (by omega), starZ_pos (by omega), star_none c2, star_none c2, decide_eq_false (by omega), decide_eq_false (by omega)])
    refine ⟨x, ?_, x2⟩
    unfold impl_starred.f
    refine Ev.bind h.impl ?_
    simp only [if_true]
    refine Ev.bind m2 (Ev.eq (funext fun k => if_neg (by omega)) ?_)
    exact x1
  · obtain ⟨x, x1, x2⟩ := main m c1 (by omega) (fun n hn => by
      rw [starZ_pos (by omega), starZ_pos (by omega)]; exact star_period h.good.pos t1 r1 c1 c4 c3 c2 hn)
    refine ⟨x, ?_, x2⟩
    unfold impl_starred.f
    refine Ev.bind h.impl ?_
    simp only [if_true]
    refine Ev.bind m2 (Ev.eq (funext fun k => if_pos (by omega)) (Ev.eq (funext fun k => if_pos (by omega)) ?_))
    exact x1
theorem canon_one : Canon [true] [false] := ⟨by decide, fun d h1 h2 => by simp at h2; omega, fun m hm => by
  obtain rfl : m = 0 := by simpa using hm.symm
  decide⟩
theorem has_one (n : Nat) : hasB [true] [false] n = decide (n = 0) := by
  rcases Nat.eq_zero_or_pos n with h | h
  · subst h; rfl
  · rw [hasB_ge (by show 1 ≤ n; omega), decide_eq_false (by omega)]
    simp [Nat.mod_one]
theorem text_one : text [true] [false] = (⟨#[49, 40, 48, 41]⟩ : ByteArray) := rfl
theorem told_one : Told (fun n => decide (n = 0)) ((⟨#[49, 40, 48, 41]⟩ : ByteArray), true) := by
  rw [← text_one]
  exact Told.of canon_one ⟨by decide, by decide, by decide⟩ has_one
theorem starOf_both {s : ByteArray} {t r : List Bool} (h : IsSmall s t r) : ∃ x, Ev (fun k => impl_StarOf.f k s) x ∧ Ev (fun k => spec_StarOf.f k s) x ∧ Told (star (hasB t r)) x := by
  obtain ⟨x, x1, x2⟩ := starred_ev h (z := fun _ _ => some true) (b := true) rfl
  have x3 : Told (star (hasB t r)) x := x2.congr (starZ_true _)
  refine ⟨x, x1, ?_, x3⟩
  have t1 := h.tl
  have r1 := h.rl
  obtain ⟨m, m1, _, m2⟩ := least_both h.good (by omega)
  unfold spec_StarOf.f
  refine Ev.bind h.spec ?_
  simp only [if_true]
  refine Ev.bind (f := fun k (b : ByteArray × Bool) => some (b.1, b.2)) (a := x) ?_ (Ev.now x)
  unfold spec_l4Whole.f
  rcases m1.cases with ⟨c1, c2⟩ | ⟨c1, c2, c3, c4⟩
  · subst c1
    refine Ev.bind m2 (Ev.eq (funext fun k => if_pos rfl) ?_)
    rw [x3.unique (told_one.congr fun n => (star_none c2 n).symm)]
    exact Ev.now _
  · refine Ev.bind m2 (Ev.eq (funext fun k => if_neg (by omega)) ?_)
    obtain ⟨l, l1, l2⟩ := star4_ev h.good (2400 + m) (by omega)
    obtain ⟨y, y1, y2⟩ := fill_tells l2 (m := 2400) (by omega) (by omega) (fun n hn => by
      rw [Nat.add_sub_cancel_left]; exact star_period h.good.pos t1 r1 c1 c4 c3 c2 (by omega))
    rw [wr (x := 2400 + (m : Int)) (by omega) (by omega), show (2400 + (m : Int)) = ((2400 + m : Nat) : Int) from by omega, x3.unique y2]
    exact Ev.bind l1 (Ev.bind y1 (Ev.now y))
theorem starPlus_both {s : ByteArray} {t r : List Bool} (h : IsSmall s t r) : ∃ x, Ev (fun k => impl_StarPlus.f k s) x ∧ Ev (fun k => spec_StarPlus.f k s) x ∧ Told (starZ (hasB t r) (hasB t r 0)) x := by
  obtain ⟨x, x1, x2⟩ := starred_ev h (z := fun t_ r_ => impl_set_has.f t_ r_ 0) (b := hasB t r 0) (set_has h.good 0 (by omega))
  refine ⟨x, x1, ?_, x2⟩
  have t1 := h.tl
  have r1 := h.rl
  have h0 := l1_has h.good 0 (by omega)
  obtain ⟨m, m1, _, m2⟩ := least_both h.good (by omega)
  unfold spec_StarPlus.f
  refine Ev.bind h.spec ?_
  simp only [if_true]
  refine Ev.bind m2 (Ev.eq (funext fun k => if_pos (by decide)) ?_)
  rcases m1.cases with ⟨c1, c2⟩ | ⟨c1, c2, c3, c4⟩
  · subst c1
    refine Ev.eq (funext fun k => if_neg (by decide)) ?_
    obtain ⟨y, y1, y2⟩ := done_told (t := [hasB t r 0]) (r := [false]) (by simp) (by simp) (by simp)
    have y3 : Told (starZ (hasB t r) (hasB t r 0)) y := y2.congr fun n => by
      rcases Nat.eq_zero_or_pos n with c | c
      · subst c; rfl
      · rw [hasB_ge (by show 1 ≤ n; omega), starZ_pos c, star_none c2, decide_eq_false (by omega)]
        simp [Nat.mod_one]
    rw [x2.unique y3]
    refine Ev.step (f := fun k => (spec_l1Done.f k [hasB t r 0] [false]).bind fun b => some (b.1, b.2)) (fun k => ?_) (Ev.bind y1 (Ev.now y))
    simp only [spec_StarPlus.j0]
    rw [show (0 : Int) = ((0 : Nat) : Int) from rfl, h0]
    rfl
  · refine Ev.eq (funext fun k => if_pos (by omega)) ?_
    obtain ⟨l, l1, l2⟩ := star4_ev h.good (2400 + m) (by omega)
    have hl := l2.len
    have l3 : Tells (l.set 0 (hasB t r 0)) (starZ (hasB t r) (hasB t r 0)) (2400 + m) := ⟨by rw [List.length_set, hl], fun j hj => by
      rcases Nat.eq_zero_or_pos j with c | c
      · subst c; rw [getD_set_self _ _ _ (by omega)]; rfl
      · rw [getD_set_ne _ _ (by omega), l2.get j hj, starZ_pos c]⟩
    obtain ⟨y, y1, y2⟩ := fill_tells l3 (m := 2400) (by omega) (by omega) (fun n hn => by
      rw [Nat.add_sub_cancel_left, starZ_pos (by omega), starZ_pos (by omega)]; exact star_period h.good.pos t1 r1 c1 c4 c3 c2 (by omega))
    rw [wr (x := 2400 + (m : Int)) (by omega) (by omega), show (2400 + (m : Int)) = ((2400 + m : Nat) : Int) from by omega, x2.unique y2]
    refine Ev.bind l1 (Ev.step (f := fun k => (spec_l2Fill.f k (l.set 0 (hasB t r 0)) 2400).bind fun b => some (b.1, b.2)) (fun k => ?_) (Ev.bind y1 (Ev.now y)))
    simp only [spec_StarPlus.j0]
    rw [show (0 : Int) = ((0 : Nat) : Int) from rfl, h0]
    simp only [Option.bind_some]
    rw [if_pos (by omega), if_neg (by omega)]
    rfl
theorem star_no {s : ByteArray} (h : NoSmall s) : Ev (fun k => impl_StarOf.f k s) ((⟨#[]⟩ : ByteArray), false) ∧ Ev (fun k => spec_StarOf.f k s) ((⟨#[]⟩ : ByteArray), false) ∧ Ev (fun k => impl_StarPlus.f k s) ((⟨#[]⟩ : ByteArray), false) ∧ Ev (fun k => spec_StarPlus.f k s) ((⟨#[]⟩ : ByteArray), false) := by
  obtain ⟨⟨a, b, e1⟩, ⟨c, d, e2⟩⟩ := h
  have g : ∀ z, Ev (fun k => impl_starred.f k s z) ((⟨#[]⟩ : ByteArray), false) := by
    intro z
    unfold impl_starred.f
    refine Ev.bind e1 ?_
    simp only [Bool.false_eq_true, if_false]
    exact Ev.now _
  refine ⟨g _, ?_, g _, ?_⟩
  · unfold spec_StarOf.f
    refine Ev.bind e2 ?_
    simp only [Bool.false_eq_true, if_false]
    exact Ev.now _
  · unfold spec_StarPlus.f
    refine Ev.bind e2 ?_
    simp only [Bool.false_eq_true, if_false]
    exact Ev.now _


abbrev empt : ByteArray × Bool := ((⟨#[]⟩ : ByteArray), false)

theorem setHas4 {s : ByteArray} {t r : List Bool} (h : IsSet s t r) (n : Nat) (hn : n ≤ 1073741824) : impl_SetHas.f s n = some (hasB t r n) := by
  unfold impl_SetHas.f
  rw [h.impl]; simp only [Option.bind_some, if_true]
  rw [set_has h.good n (by omega)]; rfl
theorem both_ev {ta ra tb rb : List Bool} (ha : Good ta ra) (hb : Good tb rb) : Ev (fun k => impl_both.f k ta ra tb rb) (((max ta.length tb.length : Nat) : Int), ((Nat.lcm ra.length rb.length : Nat) : Int)) := by
  unfold impl_both.f
  refine Ev.bind (lcm_ev ha.pos ha.rl hb.rl) (Ev.const fun k => ?_)
  rw [mx_nat']
theorem lcm_le60 {p q : Nat} (hp : p ≤ 60) (hq : q ≤ 60) : Nat.lcm p q ≤ 3600 := by
  rw [← lcm_eq]
  have h1 : p / Nat.gcd p q * q ≤ 60 * 60 := Nat.mul_le_mul (Nat.le_trans (Nat.div_le_self _ _) hp) hq
  omega
theorem makeEither_ev {s u : ByteArray} {ta ra tb rb : List Bool} (h : IsSet s ta ra) (h2 : IsSet u tb rb) : ∃ x, Ev (fun k => impl_MakeEither.f k s u) x ∧ Told (fun n => hasB ta ra n || hasB tb rb n) x := by
  have g := h.good
  have g2 := h2.good
  have l1 := lcm_le60 g.rl g2.rl
  have l2 := lcm_pos g.pos g2.pos
  have a1 := g.tl
  have a2 := g2.tl
  have hb := both_ev g g2
  have m1 := lcm_mod_left ra.length rb.length
  have m2 := lcm_mod_right ra.length rb.length
  generalize Nat.lcm ra.length rb.length = L at *
  have hT : max ta.length tb.length ≤ 60 := by omega
  have hT1 : ta.length ≤ max ta.length tb.length := by omega
  have hT2 : tb.length ≤ max ta.length tb.length := by omega
  generalize max ta.length tb.length = T at *
  obtain ⟨x, x1, x2⟩ := made_ev (f := fun n => hasB ta ra n || hasB tb rb n) (from_ := T) (size := L) l2 ⟨by omega, by omega⟩ (fun n hn => by
    show (hasB ta ra (n + L) || hasB tb rb (n + L)) = (hasB ta ra n || hasB tb rb n)
    rw [hasB_add_mul (by omega) L m1, hasB_add_mul (by omega) L m2]) (P := fun _ => impl_pair.p (fun a b => a || b) ta ra tb rb) (fun n hn => Ev.const fun _ => by
    unfold impl_pair.p
    rw [set_has g n (by omega), set_has g2 n (by omega)]
    rfl)
  refine ⟨x, ?_, x2⟩
  unfold impl_MakeEither.f impl_pair.f
  rw [h.impl, h2.impl]; simp only [Option.bind_some, if_true]
  exact Ev.bind hb x1
theorem index_zero (n : Nat) : Ev (fun k => slices_Contains_int_int.f k ([0] : List Int) (n : Int)) (decide (n = 0)) := by
  unfold slices_Contains_int_int.f slices_Index_int_int.f
  rcases Nat.eq_zero_or_pos n with c | c
  · subst c
    refine Ev.bind (a := 0) (Ev.end fun k => ?_) (Ev.now _)
    simp [slices_Index_int_int.l0, rd]
  · rw [decide_eq_false (by omega)]
    refine Ev.bind (a := -1) ?_ (Ev.now _)
    refine Ev.step (f := fun k => slices_Index_int_int.l0 k ([0] : List Int) n 1 1) (fun k => ?_) (Ev.end fun k => ?_)
    · simp only [slices_Index_int_int.l0]
      rw [if_pos (by simp), if_pos (by omega), if_pos (by simp), if_neg (by simp [rd]; omega)]
      rw [wr (x := 0 + 1) (by omega) (by omega)]; rfl
    · simp only [slices_Index_int_int.l0]
      rw [if_neg (by omega)]
theorem setOf_zero : Ev (fun k => impl_SetOf.f k ([0] : List Int)) ((⟨#[49, 40, 48, 41]⟩ : ByteArray), true) := by
  obtain ⟨x, x1, x2⟩ := made_ev (f := fun n => decide (n = 0)) (from_ := 60) (size := 1) (by omega) ⟨by omega, by omega⟩ (fun n hn => by
    show decide (n + 1 = 0) = decide (n = 0)
    rw [decide_eq_false (by omega), decide_eq_false (by omega)]) (P := fun k n => slices_Contains_int_int.f k ([0] : List Int) n) (fun n hn => index_zero n)
  rw [told_one.unique x2]
  unfold impl_SetOf.f
  refine Ev.bind (a := false) ?_ ?_
  · unfold slices_ContainsFunc_int_int.f slices_IndexFunc_int_int.f
    refine Ev.bind (a := -1) ?_ (Ev.now _)
    refine Ev.step (f := fun k => slices_IndexFunc_int_int.l0 impl_SetOf.wrong k ([0] : List Int) 1 1) (fun k => ?_) (Ev.end fun k => ?_)
    · simp only [slices_IndexFunc_int_int.l0]
      rw [if_pos (by simp), if_pos (by omega), if_pos (by simp), show impl_SetOf.wrong (rd ([0] : List Int) 0) = some false from rfl]
      simp only [Option.bind_some, Bool.false_eq_true, if_false]
      rw [wr (x := 0 + 1) (by omega) (by omega)]; rfl
    · simp only [slices_IndexFunc_int_int.l0]
      rw [if_neg (by omega)]
  · simp only [Bool.false_eq_true, if_false]
    exact x1


/-- The set that SolveTwo counts. -/
def two (ta ra tb rb : List Bool) : Nat → Bool := lst (hasB (false :: ta) ra) (hasB tb rb)
end Go.Proofs.Ytpkpgdlbgcjloaa.Q

namespace Go.Proofs.Ytpkpgdlbgcjloaa.Q
open Go.RowKit Go.Proofs.YtpkpgdlbgcjloaaW.PrintWords Go.Proofs.YtpkpgdlbgcjloaaW.PrintLast Go.Proofs.YtpkpgdlbgcjloaaW.PrintMore
set_option linter.unusedVariables false
set_option linter.unusedSimpArgs false
structure Bs (bs : List Int) : Prop where
  len : bs.length ≤ 2000
  byte : ∀ x ∈ bs, 0 ≤ x ∧ x ≤ 255
theorem byte_wf {x : Int} (h : (Lit.int .u8 x).wf = true) : 0 ≤ x ∧ x ≤ 255 := by
  have h1 : IntKind.u8.min = 0 := rfl
  have h2 : IntKind.u8.max = 255 := rfl
  simp [Lit.wf] at h
  omega
theorem open_ev (l0 : List Int) (h : ∀ x ∈ l0, (Lit.int .u8 x).wf = true) : ∃ bs, Bs bs ∧ spec_l6Open.f l0 = some (bs, 0) := by
  unfold spec_l6Open.f
  by_cases c : (l0.length : Int) > 2000
  · refine ⟨l0.take 2000, ⟨List.length_take_le _ _, fun x hx => byte_wf (h x (List.mem_of_mem_take hx))⟩, ?_⟩
    rw [if_pos c, if_pos (by omega)]
  · exact ⟨l0, ⟨by omega, fun x hx => byte_wf (h x hx)⟩, by rw [if_neg c]⟩
theorem rd_byte {bs : List Int} (h : Bs bs) (i : Nat) : ∃ b : Nat, b ≤ 255 ∧ rd bs (i : Int) = b := by
  have hx : 0 ≤ rd bs (i : Int) ∧ rd bs (i : Int) ≤ 255 := by
    unfold rd
    rw [Int.toNat_natCast]
    by_cases c : i < bs.length
    · have : bs.getD i 0 = bs[i] := by simp [List.getD, c]
      rw [this]
      exact h.byte _ (List.getElem_mem c)
    · have : bs.getD i 0 = 0 := by simp [List.getD, List.getElem?_eq_none (show bs.length ≤ i by omega)]
      rw [this]; omega
  obtain ⟨b, hb⟩ := Int.eq_ofNat_of_zero_le hx.1
  exact ⟨b, by omega, hb⟩
theorem xor_nat (a b : Nat) (ha : a < 2 ^ 62) (hb : b < 2 ^ 62) : Go.bits .xor .i64 (a : Int) (b : Int) = ((a ^^^ b : Nat) : Int) := by
  have h64 : IntKind.i64.bits = 64 := rfl
  have ha' : a % 2 ^ 64 = a := Nat.mod_eq_of_lt (by omega)
  have hb' : b % 2 ^ 64 = b := Nat.mod_eq_of_lt (by omega)
  have hx : a ^^^ b < 2 ^ 62 := Nat.xor_lt_two_pow ha hb
  simp only [Go.bits, h64, BitVec.ofInt_natCast, BitVec.toNat_xor, BitVec.toNat_ofNat, ha', hb']
  rw [IntKind.wrap_i64]
  omega
theorem pick_ev {bs : List Int} (h : Bs bs) (p n : Nat) (hp : p ≤ 1000000) (hn : 1 ≤ n) (hn2 : n ≤ 1000000) : ∃ v : Nat, v < n ∧ Ev (fun k => spec_l6Rd_pick.f k bs p n) ((v : Int), ((p + 1 : Nat) : Int)) := by
  have hl := h.len
  have e1 : wrap64 (((p + 1 : Nat) : Int) - 1) = (p : Nat) := by rw [wr (by omega) (by omega)]; omega
  have pos : ∀ v : Nat, Ev (fun k => spec_l6Rd_pick.j0 k n ((bs.length : Int) == 0) bs ((p + 1 : Nat) : Int)) ((v : Int), ((p + 1 : Nat) : Int)) → Ev (fun k => spec_l6Rd_pick.f k bs p n) ((v : Int), ((p + 1 : Nat) : Int)) := by
    intro v hv
    refine Ev.congr (fun k => ?_) hv
    unfold spec_l6Rd_pick.f
    rw [if_neg (by omega), wr1 (by omega)]
  by_cases c0 : bs.length = 0
  · refine ⟨0, by omega, pos 0 (Ev.end fun k => ?_)⟩
    simp only [spec_l6Rd_pick.j0]
    rw [if_pos (by rw [c0]; rfl)]
    rfl
  · have hne : ¬ (((bs.length : Int) == 0) = true) := by simp; intro h; exact c0 (by simp [h])
    by_cases c : p < bs.length
    · obtain ⟨b, hb, eb⟩ := rd_byte h p
      refine ⟨b % n, Nat.mod_lt _ (by omega), pos _ (Ev.end fun k => ?_)⟩
      simp only [spec_l6Rd_pick.j0]
      rw [if_neg hne, e1, if_pos (by omega), if_pos (by omega), if_neg (by omega), eb, wr (by omega) (by omega), tmod_nat]
    · have hm1 := Nat.mod_lt p (show bs.length > 0 by omega)
      have hm2 := Nat.mod_lt (p * 7 + 3) (show bs.length > 0 by omega)
      obtain ⟨b1, hb1, eb1⟩ := rd_byte h (p % bs.length)
      obtain ⟨b2, hb2, eb2⟩ := rd_byte h ((p * 7 + 3) % bs.length)
      have hd := Nat.div_le_self p bs.length
      have hx : b1 * 131 + b2 * 1117 + p * 29 + p / bs.length * 53 ≤ 100000000 := by omega
      refine ⟨((b1 * 131 + b2 * 1117 + p * 29 + p / bs.length * 53) ^^^ ((b1 * 131 + b2 * 1117 + p * 29 + p / bs.length * 53) / 64)) % n, Nat.mod_lt _ (by omega), pos _ (Ev.end fun k => ?_)⟩
      simp only [spec_l6Rd_pick.j0]
      have e7 : wrap64 (wrap64 (((p : Nat) : Int) * 7) + 3) = ((p * 7 + 3 : Nat) : Int) := by rw [wr (x := (p : Int) * 7) (by omega) (by omega), wr (by omega) (by omega)]; omega
      rw [if_neg hne, e1, if_neg (by omega), if_neg (by omega), e7, tmod_nat, tmod_nat, if_pos (by omega), if_pos (by omega), if_pos (by omega), if_pos (by omega), if_neg (by omega), eb1, eb2, tdiv_nat]
      have hX : wrap64 (wrap64 (wrap64 (wrap64 (wrap64 (b1 : Int) * 131) + wrap64 (wrap64 (b2 : Int) * 1117)) + wrap64 ((p : Int) * 29)) + wrap64 (wrap64 ((p / bs.length : Nat) : Int) * 53)) = ((b1 * 131 + b2 * 1117 + p * 29 + p / bs.length * 53 : Nat) : Int) := by
        generalize p / bs.length = q at *
        rw [wr (x := (b1 : Int)) (by omega) (by omega), wr (x := (b2 : Int)) (by omega) (by omega), wr (x := (b1 : Int) * 131) (by omega) (by omega), wr (x := (b2 : Int) * 1117) (by omega) (by omega), wr (x := (p : Int) * 29) (by omega) (by omega), wr (x := (q : Int)) (by omega) (by omega), wr (x := (q : Int) * 53) (by omega) (by omega), wr (x := (b1 : Int) * 131 + (b2 : Int) * 1117) (by omega) (by omega), wr (x := (b1 : Int) * 131 + (b2 : Int) * 1117 + (p : Int) * 29) (by omega) (by omega), wr (by omega) (by omega)]
        omega
      rw [hX]
      generalize b1 * 131 + b2 * 1117 + p * 29 + p / bs.length * 53 = X at hx
      have hq : wrap64 (Int.tdiv (X : Int) 64) = ((X / 64 : Nat) : Int) := by
        rw [show (64 : Int) = ((64 : Nat) : Int) from rfl, tdiv_nat, wr (by omega) (by omega)]
      rw [hq, xor_nat _ _ (by omega) (by omega), tmod_nat]

theorem signs_draw_l0 {bs : List Int} (h : Bs bs) (c : Nat) : ∀ (acc : List Int) (p : Nat), p + c ≤ 1000000 → acc.length + c ≤ 1000000 →
    ∃ s : ByteArray, s.size = acc.length + c ∧ Ev (fun k => spec_l91Signs.l0 k acc c bs p) (s, ((p + c : Nat) : Int)) := by
  induction c with
  | zero =>
    intro acc p hp ha
    refine ⟨strOfNums acc, strOfNums_size acc, Ev.end fun k => ?_⟩
    simp only [spec_l91Signs.l0]
    rw [if_neg (by omega)]; rfl
  | succ c ih =>
    intro acc p hp ha
    obtain ⟨v, hv, e⟩ := pick_ev h p 2 (by omega) (by omega) (by omega)
    obtain ⟨s, hs, es⟩ := ih (acc ++ [(wrap64 (48 + (v : Int))) % 256]) (p + 1) (by omega) (by rw [List.length_append, List.length_singleton]; omega)
    rw [List.length_append, List.length_singleton] at hs
    refine ⟨s, by omega, Ev.step (f := fun k => (spec_l6Rd_pick.f k bs p 2).bind fun x => if acc.length < 140737488355328 then spec_l91Signs.l0 k (acc ++ [(wrap64 (48 + x.1)) % 256]) (c : Nat) bs x.2 else none) (fun k => ?_) (Ev.bind e ?_)⟩
    · simp only [spec_l91Signs.l0]
      rw [if_pos (by omega), wr (x := ((c + 1 : Nat) : Int) - 1) (by omega) (by omega), show ((c + 1 : Nat) : Int) - 1 = (c : Int) from by omega]
    · simp only [if_pos (show acc.length < 140737488355328 from by omega)]
      rw [show p + (c + 1) = p + 1 + c from by omega]
      exact es
theorem signs_draw {bs : List Int} (h : Bs bs) (p low many : Nat) (hp : p ≤ 100000) (hl : low ≤ 1000) (hm : 1 ≤ many) (hm2 : many ≤ 1000) :
    ∃ (s : ByteArray) (q : Nat), s.size ≤ low + many ∧ q ≤ p + 1 + low + many ∧ Ev (fun k => spec_l91Signs.f k bs p low many) (s, (q : Int)) := by
  obtain ⟨v, hv, e⟩ := pick_ev h p many (by omega) hm (by omega)
  obtain ⟨s, hs, es⟩ := signs_draw_l0 h (low + v) [] (p + 1) (by omega) (by simp; omega)
  simp only [List.length_nil] at hs
  refine ⟨s, p + 1 + (low + v), by omega, by omega, ?_⟩
  unfold spec_l91Signs.f
  refine Ev.bind e ?_
  simp only [show wrap64 ((low : Int) + (v : Int)) = ((low + v : Nat) : Int) from by rw [wr (by omega) (by omega)]; omega]
  exact es

theorem set_draw {bs : List Int} (h : Bs bs) (p : Nat) (hp : p ≤ 50000) : ∃ (s : ByteArray) (q : Nat), s.size ≤ 100 ∧ q ≤ p + 100 ∧ Ev (fun k => spec_l91Set.f k bs p) (s, (q : Int)) := by
  obtain ⟨s1, p1, hs1, hp1, e1⟩ := signs_draw h p 0 6 (by omega) (by omega) (by omega) (by omega)
  obtain ⟨s2, p2, hs2, hp2, e2⟩ := signs_draw h p1 1 5 (by omega) (by omega) (by omega) (by omega)
  obtain ⟨v, hv, e3⟩ := pick_ev h p2 24 (by omega) (by omega) (by omega)
  have z1 : (⟨#[40]⟩ : ByteArray).size = 1 := rfl
  have z2 : (⟨#[41]⟩ : ByteArray).size = 1 := rfl
  have z3 : (⟨#[40, 48, 41]⟩ : ByteArray).size = 3 := rfl
  have key : ∃ (s : ByteArray) (q : Nat), s.size ≤ 100 ∧ q ≤ p + 100 ∧ Ev (fun k => if (v : Int) = 0 then ((some (([(⟨#[]⟩ : ByteArray), (⟨#[48]⟩ : ByteArray), (⟨#[40, 41]⟩ : ByteArray), (⟨#[49, 40]⟩ : ByteArray), (⟨#[40, 48, 41, 41]⟩ : ByteArray), (⟨#[97, 40, 49, 41]⟩ : ByteArray), (⟨#[40, 49, 41, 48]⟩ : ByteArray), (⟨#[48, 49, 40, 48, 50, 41]⟩ : ByteArray), (⟨#[48, 40, 40, 49, 41]⟩ : ByteArray)] : List ByteArray) : List ByteArray)).bind fun y => ((spec_l6Rd_pick.f k bs ((p2 + 1 : Nat) : Int) 9).bind fun x => (if 0 ≤ x.1 then (if x.1 < (y.length : Int) then (some (rdOf ByteArray.empty y x.1, x.2)) else (none)) else (none)))) else (if (v : Int) = 1 then ((spec_l91Signs.f k bs ((p2 + 1 : Nat) : Int) 0 6).bind fun x => (if x.1.size + 3 ≤ 9223372036854775807 then (some (x.1 ++ (⟨#[40, 48, 41]⟩ : ByteArray), x.2)) else (none))) else (if (v : Int) = 2 then (if 1 ≤ ((((s1 ++ (⟨#[40]⟩ : ByteArray)) ++ s2) ++ (⟨#[41]⟩ : ByteArray)).size : Int) then (if 1 + ((((s1 ++ (⟨#[40]⟩ : ByteArray)) ++ s2) ++ (⟨#[41]⟩ : ByteArray)).extract 1 (((s1 ++ (⟨#[40]⟩ : ByteArray)) ++ s2) ++ (⟨#[41]⟩ : ByteArray)).size).size ≤ 9223372036854775807 then (some ((⟨#[40]⟩ : ByteArray) ++ ((((s1 ++ (⟨#[40]⟩ : ByteArray)) ++ s2) ++ (⟨#[41]⟩ : ByteArray)).extract 1 (((s1 ++ (⟨#[40]⟩ : ByteArray)) ++ s2) ++ (⟨#[41]⟩ : ByteArray)).size), ((p2 + 1 : Nat) : Int))) else (none)) else (none)) else (some (((s1 ++ (⟨#[40]⟩ : ByteArray)) ++ s2) ++ (⟨#[41]⟩ : ByteArray), ((p2 + 1 : Nat) : Int)))))) (s, (q : Int)) := by
    by_cases c0 : v = 0
    · obtain ⟨u, hu, e4⟩ := pick_ev h (p2 + 1) 9 (by omega) (by omega) (by omega)
      refine ⟨rdOf ByteArray.empty [(⟨#[]⟩ : ByteArray), (⟨#[48]⟩ : ByteArray), (⟨#[40, 41]⟩ : ByteArray), (⟨#[49, 40]⟩ : ByteArray), (⟨#[40, 48, 41, 41]⟩ : ByteArray), (⟨#[97, 40, 49, 41]⟩ : ByteArray), (⟨#[40, 49, 41, 48]⟩ : ByteArray), (⟨#[48, 49, 40, 48, 50, 41]⟩ : ByteArray), (⟨#[48, 40, 40, 49, 41]⟩ : ByteArray)] (u : Int), p2 + 1 + 1, ?_, by omega, ?_⟩
      · have : u = 0 ∨ u = 1 ∨ u = 2 ∨ u = 3 ∨ u = 4 ∨ u = 5 ∨ u = 6 ∨ u = 7 ∨ u = 8 := by omega
        rcases this with rfl | rfl | rfl | rfl | rfl | rfl | rfl | rfl | rfl <;> decide
      · simp only [if_pos (show (v : Int) = 0 from by omega), Option.bind_some]
        refine Ev.bind e4 (Ev.const fun k => ?_)
        rw [if_pos (by omega), if_pos (by simp; omega)]
    · simp only [if_neg (show ¬ (v : Int) = 0 from by omega)]
      by_cases c1 : v = 1
      · obtain ⟨s4, p4, hs4, hp4, e4⟩ := signs_draw h (p2 + 1) 0 6 (by omega) (by omega) (by omega) (by omega)
        refine ⟨s4 ++ ⟨#[40, 48, 41]⟩, p4, by rw [ByteArray.size_append, z3]; omega, by omega, ?_⟩
        simp only [if_pos (show (v : Int) = 1 from by omega)]
        refine Ev.bind e4 (Ev.const fun k => ?_)
        rw [if_pos (by show s4.size + 3 ≤ 9223372036854775807; omega)]
      · simp only [if_neg (show ¬ (v : Int) = 1 from by omega)]
        have hsz : (((s1 ++ (⟨#[40]⟩ : ByteArray)) ++ s2) ++ (⟨#[41]⟩ : ByteArray)).size = s1.size + 1 + s2.size + 1 := by
          rw [ByteArray.size_append, ByteArray.size_append, ByteArray.size_append, z1, z2]
        by_cases c2 : v = 2
        · simp only [if_pos (show (v : Int) = 2 from by omega)]
          have hx : ((((s1 ++ (⟨#[40]⟩ : ByteArray)) ++ s2) ++ (⟨#[41]⟩ : ByteArray)).extract 1 (((s1 ++ (⟨#[40]⟩ : ByteArray)) ++ s2) ++ (⟨#[41]⟩ : ByteArray)).size).size = s1.size + 1 + s2.size := by
            rw [ext_size _ _ _ (Nat.le_refl _), hsz]; omega
          refine ⟨(⟨#[40]⟩ : ByteArray) ++ ((((s1 ++ (⟨#[40]⟩ : ByteArray)) ++ s2) ++ (⟨#[41]⟩ : ByteArray)).extract 1 (((s1 ++ (⟨#[40]⟩ : ByteArray)) ++ s2) ++ (⟨#[41]⟩ : ByteArray)).size), p2 + 1, ?_, by omega, Ev.const fun k => ?_⟩
          · rw [ByteArray.size_append, z1, hx]; omega
          · rw [if_pos (by omega), if_pos (by omega)]
        · simp only [if_neg (show ¬ (v : Int) = 2 from by omega)]
          exact ⟨_, p2 + 1, by rw [hsz]; omega, by omega, Ev.now _⟩
  obtain ⟨s, q, g1, g2, g3⟩ := key
  refine ⟨s, q, g1, g2, ?_⟩
  unfold spec_l91Set.f
  refine Ev.bind e1 ?_
  simp only [if_pos (show s1.size + 1 ≤ 9223372036854775807 from by omega)]
  refine Ev.bind e2 ?_
  have w1 : s1.size + 1 + s2.size ≤ 9223372036854775807 := by omega
  have w2 : s1.size + 1 + s2.size + 1 ≤ 9223372036854775807 := by omega
  simp only [if_pos w1, if_pos w2]
  exact Ev.bind e3 g3

end Go.Proofs.Ytpkpgdlbgcjloaa.Q

namespace Go.Proofs.Ytpkpgdlbgcjloaa.Q
open Go.RowKit Go.Proofs.YtpkpgdlbgcjloaaW.PrintWords Go.Proofs.YtpkpgdlbgcjloaaW.PrintLast Go.Proofs.YtpkpgdlbgcjloaaW.PrintMore
open Go.Proofs.Ytpkpgdlbgcjloaa.Pl
set_option linter.unusedVariables false
set_option linter.unusedSimpArgs false
theorem draw_one {g : Nat → List Int → Option ByteArray} (hg : ∀ k l, g k l = (spec_l6Open.f l).bind fun x => (spec_l91Set.f k x.1 x.2).bind fun y => some y.1) (l0 : List Int) (h : ∀ x ∈ l0, (Lit.int .u8 x).wf = true) : ∃ s : ByteArray, s.size ≤ 1000 ∧ Ev (fun k => g k l0) s := by
  obtain ⟨bs, hb, eo⟩ := open_ev l0 h
  obtain ⟨s, q, g1, g2, g3⟩ := set_draw hb 0 (by omega)
  refine ⟨s, by omega, Ev.congr (fun k => hg k l0) ?_⟩
  rw [eo]; simp only [Option.bind_some]
  exact Ev.bind g3 (Ev.now _)
theorem setHas_small {s : ByteArray} {t r : List Bool} (h : IsSmall s t r) (n : Nat) (hn : n ≤ 1073741824) : impl_SetHas.f s n = some (hasB t r n) := by
  obtain ⟨t0, r0, h0, h1⟩ := h.has
  unfold impl_SetHas.f
  rw [h0.impl]; simp only [Option.bind_some, if_true]
  rw [set_has h0.good n (by omega), h1]; rfl
/-- The states of the loop: each is empty or the text of a set. -/
def Text (x : ByteArray × Bool) : Prop := x = empt ∨ ∃ t r, Canon t r ∧ Good t r ∧ x = (text t r, true)
theorem Text.of {f : Nat → Bool} {x : ByteArray × Bool} (h : Told f x) : Text x := by
  cases c : x.2 with
  | false => exact .inl (h.no c)
  | true =>
    obtain ⟨t, r, h1, h2, h3, h4⟩ := h.yes c
    exact .inr ⟨t, r, h1, h2, h4⟩
abbrev one : ByteArray × Bool := ((⟨#[49, 40, 48, 41]⟩ : ByteArray), true)
end Go.Proofs.Ytpkpgdlbgcjloaa.Q

namespace Go.Proofs.Ytpkpgdlbgcjloaa.Pure
open Go.RowKit Go.Proofs.Ytpkpgdlbgcjloaa.Q Go.Proofs.YtpkpgdlbgcjloaaW.PrintWords Go.Proofs.YtpkpgdlbgcjloaaW.PrintLast
open Go.Proofs.Ytpkpgdlbgcjloaa.Pl
set_option linter.unusedSimpArgs false
set_option linter.unusedVariables false
theorem FnStarPlus : laws_FnStarPlus.Pure := by
  intro l0 h1 h2 h
  by_cases hz : (l0.length : Int) > 1048576
  · exact ⟨0, by unfold laws_FnStarPlus.f; rw [if_pos hz]⟩
  obtain ⟨s, hs, hd⟩ := draw_one (g := spec_DrawStarPlus.f) (fun k l => rfl) l0 h
  refine Ev.rounds ?_
  unfold laws_FnStarPlus.f
  refine Ev.eq (funext fun k => if_neg hz) (Ev.bind hd ?_)
  rcases small_cases s (by omega) with g | ⟨t, r, g⟩
  · obtain ⟨_, _, e1, e2⟩ := star_no g
    refine Ev.bind e1 (Ev.bind e2 (Ev.eq (funext fun k => if_pos rfl) ?_))
    exact Ev.step (f := fun k => laws_FnStarPlus.j1 k s empt.1 true true) (fun k => by simp only [laws_FnStarPlus.j0, beq_self_eq_true, if_true, Bool.not_false]) (Ev.end fun k => by simp only [laws_FnStarPlus.j1, if_true])
  · obtain ⟨x, e1, e2, e3⟩ := starPlus_both g
    refine Ev.bind e1 (Ev.bind e2 (Ev.eq (funext fun k => if_pos rfl) ?_))
    refine Ev.step (f := fun k => laws_FnStarPlus.j1 k s x.1 true (!x.2)) (fun k => by simp only [laws_FnStarPlus.j0, beq_self_eq_true, if_true]) ?_
    by_cases c : x.2 = true
    · obtain ⟨t', r', a1, a2, a3, a4⟩ := e3.yes c
      have a5 : IsSet x.1 t' r' := by rw [a4]; exact text_isSet a2
      obtain ⟨w, w1, w2⟩ := makeEither_ev a5 (text_isSet (t := [true]) (r := [false]) ⟨by decide, by decide, by decide⟩)
      obtain ⟨v, v1, _, v3⟩ := starOf_both g
      have hw : w = v := (w2.congr (fun n => by
        show (hasB t' r' n || hasB [true] [false] n) = star (hasB t r) n
        rw [a3, has_one]
        rcases Nat.eq_zero_or_pos n with e | e
        · subst e
          rw [decide_eq_true rfl, Bool.or_true, ← starZ_true (hasB t r) 0]; rfl
        · rw [starZ_pos e, decide_eq_false (by omega), Bool.or_false])).unique v3
      have s1 : impl_SetHas.f x.1 0 = some (hasB t r 0) := by
        have := setHas4 a5 0 (by omega)
        rw [a3] at this
        exact this
      have s2 : impl_SetHas.f s 0 = some (hasB t r 0) := setHas_small g 0 (by omega)
      refine Ev.step (f := fun k => (impl_SetOf.f k (([0] : List Int))).bind fun a => ((impl_MakeEither.f k x.1 a.1).bind fun b => ((impl_StarOf.f k s).bind fun c => (if b.2 = true then (if c.2 = true then (if b.1.toList = c.1.toList then (some true) else (some false)) else (some true)) else (some true))))) (fun k => ?_) (Ev.bind setOf_zero (Ev.bind w1 (Ev.bind v1 ?_)))
      · simp only [laws_FnStarPlus.j1, c, Bool.not_true, Bool.false_eq_true, if_false, s1, s2, Option.bind_some, beq_self_eq_true]
      · subst hw
        exact Ev.const fun k => by simp
    · exact Ev.end fun k => by
        simp only [laws_FnStarPlus.j1]
        rw [if_pos (by cases k2 : x.2 with | false => rfl | true => exact absurd k2 c)]

end Go.Proofs.Ytpkpgdlbgcjloaa.Pure
