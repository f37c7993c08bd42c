/- The law FnProofDiffer holds for all that it draws. -/
import Derived.Test.YtinjblbfaijhdaaDoorCFnProofDiffer10
import Derived.Test.YtinjblbfaijhdaaDoorCFnProofDiffer11
import Derived.Test.YtinjblbfaijhdaaDoorCFnProofDiffer13
import Derived.Test.YtinjblbfaijhdaaDoorCFnProofDiffer15
import Derived.Test.YtinjblbfaijhdaaDoorCFnProofDiffer17
namespace Go.Proofs.YtinjblbfaijhdaaDoor.Q
open Go.RowKit Go.Proofs.YtinjblbfaijhdaaDoorW.PrintWords Go.Proofs.YtinjblbfaijhdaaDoorW.PrintLast Go.Proofs.YtinjblbfaijhdaaDoorW.PrintMore
attribute [local go_sem] max2_int min2_int max_two min_two max_three min_three max_four min_four   -- for this text's walks alone
set_option linter.unusedVariables false
set_option linter.unusedSimpArgs false
def laws_FnProofDiffer.j0 : Nat → ByteArray → ByteArray → ByteArray → Bool → Bool → Option (Bool)
 | 0, _, _, _, _, _ => none
 | k + 1, x3, x4, x5, x6, x9 => if x9 = true then ((impl_SetIn.f x3).bind fun t919 => (if t919 = true then ((impl_SetIn.f x4).bind fun t920 => (if t920 = true then ((impl_SetSame.f k x3 x4).bind fun t921 => (if (x6 == (!t921)) = true then (if x6 = true then ((impl_ProofDifferIs.f x3 x4 x5).bind fun t922 => (some t922)) else (some true)) else (some false))) else (if (x6 == false) = true then (if x6 = true then ((impl_ProofDifferIs.f x3 x4 x5).bind fun t923 => (some t923)) else (some true)) else (some false)))) else (if (x6 == false) = true then (if x6 = true then ((impl_ProofDifferIs.f x3 x4 x5).bind fun t924 => (some t924)) else (some true)) else (some false)))) else (some false)
def laws_FnProofDiffer.f (k : Nat) (l0 : List Int) : Option (Bool) := if (l0.length : Int) > 1048576 then (some true) else ((spec_DrawProofDiffer.f k l0).bind fun bt913 => ((impl_ProofDiffer.f k bt913.1 bt913.2).bind fun bt915 => ((spec_ProofDiffer.f k bt913.1 bt913.2).bind fun bt917 => (if bt915.1.toList = bt917.1.toList then (laws_FnProofDiffer.j0 k bt913.1 bt913.2 bt915.1 bt915.2 (bt915.2 == bt917.2)) else (laws_FnProofDiffer.j0 k bt913.1 bt913.2 bt915.1 bt915.2 false)))))
theorem laws_FnProofDiffer.mono_l : ∀ k, (∀ y0 y1 y2 y3 y4, LeO (laws_FnProofDiffer.j0 k y0 y1 y2 y3 y4) (laws_FnProofDiffer.j0 (k + 1) y0 y1 y2 y3 y4))
 | 0 => fun _ _ _ _ _ r h => by simp [laws_FnProofDiffer.j0] at h
 | k + 1 => by
  have ih0 := laws_FnProofDiffer.mono_l k
  ·intro y0 y1 y2 y3 y4
   unfold laws_FnProofDiffer.j0
   repeat' first | (with_reducible exact impl_SetSame.mono _ _ _) | (with_reducible exact LeO.refl _) | (with_reducible refine LeO.ite ?_ ?_) | (with_reducible refine LeO.bind ?_ (fun _ => ?_))
theorem laws_FnProofDiffer.mono : ∀ a0 k, LeO (laws_FnProofDiffer.f k a0) (laws_FnProofDiffer.f (k + 1) a0) := by
 intro a0 k
 have ih0 := laws_FnProofDiffer.mono_l k
 unfold laws_FnProofDiffer.f
 repeat' first | (with_reducible exact ih0 _ _ _ _ _) | (with_reducible exact impl_ProofDiffer.mono _ _ _) | (with_reducible exact spec_DrawProofDiffer.mono _ _) | (with_reducible exact spec_ProofDiffer.mono _ _ _) | (with_reducible exact LeO.refl _) | (with_reducible refine LeO.ite ?_ ?_) | (with_reducible refine LeO.bind ?_ (fun _ => ?_))
set_option maxHeartbeats 8000000 in
set_option maxRecDepth 100000 in
theorem laws_FnProofDiffer.calls (k : Nat) (A0 : Option Addr) (c0 : Nat) (l0 : List Int) (r : Bool) (w : World) (hr0 : Kd.C (Kd.int .u8) w A0 l0.length l0) (hc0 : l0.length ≤ c0) (h : laws_FnProofDiffer.f k l0 = some r) (hG : GlobN w) :
  Calls Tryd.prog 14 #[.slice A0 l0.length c0] w fun e w' => e = .returned (.bool r) ∧ Below w.heap.size w w' := by
 have HR0 := Aside0.mk hr0
 have HC0 := Aside0.mk hc0
 clear hr0 hc0
 have HB := Aside0.mk (Below.refl w.heap.size w)
 have H : (if (l0.length : Int) > 1048576 then (some true) else ((spec_DrawProofDiffer.f k l0).bind fun bt913 => ((impl_ProofDiffer.f k bt913.1 bt913.2).bind fun bt915 => ((spec_ProofDiffer.f k bt913.1 bt913.2).bind fun bt917 => (if bt915.1.toList = bt917.1.toList then (laws_FnProofDiffer.j0 k bt913.1 bt913.2 bt915.1 bt915.2 (bt915.2 == bt917.2)) else (laws_FnProofDiffer.j0 k bt913.1 bt913.2 bt915.1 bt915.2 false)))))) = some r := h
 clear h
 by_cases c2 : (l0.length : Int) > 1048576
 ·rw [if_pos c2] at H
  have c2b0 : decide (1048576 < (l0.length : Int)) = true := decide_eq_true c2
  have c2b1 : decide (1048576 < l0.length) = true := decide_eq_true (by omega)
  clear c2
  obtain rfl := Option.some.inj H
  go_enter Tryd.func14, Tryd.ntmps14
  go_wp2
  go_ret
  exact ⟨by first | rfl | (simp [*, errW_none, errW_some] <;> rfl), HB.out⟩
 ·rw [if_neg c2] at H
  have c2b0 : decide (1048576 < (l0.length : Int)) = false := decide_eq_false c2
  have c2b1 : decide (1048576 < l0.length) = false := decide_eq_false (by omega)
  clear c2
  replace H := Option.bind_eq_some_iff.mp H
  obtain ⟨⟨t913, t914⟩, A30, H⟩ := H
  replace H : ((impl_ProofDiffer.f k t913 t914).bind fun bt915 => ((spec_ProofDiffer.f k t913 t914).bind fun bt917 => (if bt915.1.toList = bt917.1.toList then (laws_FnProofDiffer.j0 k t913 t914 bt915.1 bt915.2 (bt915.2 == bt917.2)) else (laws_FnProofDiffer.j0 k t913 t914 bt915.1 bt915.2 false)))) = some r := H
  have A3 := Aside0.mk A30
  clear A30
  replace H := Option.bind_eq_some_iff.mp H
  obtain ⟨⟨t915, t916⟩, A40, H⟩ := H
  replace H : ((spec_ProofDiffer.f k t913 t914).bind fun bt917 => (if t915.toList = bt917.1.toList then (laws_FnProofDiffer.j0 k t913 t914 t915 t916 (t916 == bt917.2)) else (laws_FnProofDiffer.j0 k t913 t914 t915 t916 false))) = some r := H
  have A4 := Aside0.mk A40
  clear A40
  replace H := Option.bind_eq_some_iff.mp H
  obtain ⟨⟨t917, t918⟩, A50, H⟩ := H
  replace H : (if t915.toList = t917.toList then (laws_FnProofDiffer.j0 k t913 t914 t915 t916 (t916 == t918)) else (laws_FnProofDiffer.j0 k t913 t914 t915 t916 false)) = some r := H
  have A5 := Aside0.mk A50
  clear A50
  have HC6 := Aside0.mk H
  clear H
  go_enter Tryd.func14, Tryd.ntmps14
  go_upto_region 6 with (first | ((with_reducible refine gate_callee (f := 36) rfl ?_); refine goesL_ (some 15) rfl rfl Tryd.func36 (by kernel_rfl) rfl #[.slice A0 l0.length c0] rfl (by (try simp only [List.map_toArray, List.map_cons, List.map_nil]); rfl) ?_; (with_reducible refine (spec_DrawProofDiffer.calls k _ _ l0 t913 t914 _ ?side1 ?side2 A3.out).mono ?_); (case side1 => repeat (exact HR0.out)); (case side2 => exact HC0.out); rintro e w7 ⟨rfl, hb⟩; refine ⟨_, rfl, ?_⟩; replace HB := Aside0.mk (below_step HB.out hb); (try clear hb)) | ((with_reducible refine gate_callee (f := 28) rfl ?_); refine goesL_ (some 21) rfl rfl Tryd.func28 (by kernel_rfl) rfl #[.string t913, .string t914] rfl (by (try simp only [List.map_toArray, List.map_cons, List.map_nil]); rfl) ?_; (with_reducible refine (impl_ProofDiffer.calls k t913 t914 t915 t916 _ A4.out (Glob.below hG.glob HB.out)).mono ?_); rintro e w8 ⟨rfl, hb⟩; refine ⟨_, rfl, ?_⟩; replace HB := Aside0.mk (below_step HB.out hb); (try clear hb)) | ((with_reducible refine gate_callee (f := 27) rfl ?_); refine goesL_ (some 27) rfl rfl Tryd.func27 (by kernel_rfl) rfl #[.string t913, .string t914] rfl (by (try simp only [List.map_toArray, List.map_cons, List.map_nil]); rfl) ?_; (with_reducible refine (spec_ProofDiffer.calls k t913 t914 t917 t918 _ A5.out).mono ?_); rintro e w9 ⟨rfl, hb⟩; refine ⟨_, rfl, ?_⟩; replace HB := Aside0.mk (below_step HB.out hb); (try clear hb)))
  go_cut [9] (fun v9 wc => ∃ (kq : Nat) (x9_5 : Bool), v9 = .bool x9_5 ∧ Aside0 (laws_FnProofDiffer.j0 kq t913 t914 t915 t916 x9_5 = some r) ∧ Aside0 (kq ≤ k) ∧ Aside0 (Below w.heap.size w wc))
  case first =>
   have H := HC6.out
   clear HC6
   by_cases c10 : t915.toList = t917.toList
   ·rw [if_pos c10] at H
    have c10b0 : (t915.toList == t917.toList) = true := beq_iff_eq.mpr c10
    have c10b1 : (t915.toList != t917.toList) = false := bne_eq_false_iff_eq.mpr c10
    clear c10
    have H' := Aside0.mk H
    clear H
    go_wp2
    go_meet
    case rel => exact ⟨_, ((t916 == t918)), (by rfl), H', ⟨by omega⟩, ⟨HB.out⟩⟩
   ·rw [if_neg c10] at H
    have c10b0 : (t915.toList == t917.toList) = false := beq_eq_false_iff_ne.mpr c10
    have c10b1 : (t915.toList != t917.toList) = true := bne_iff_ne.mpr c10
    have H' := Aside0.mk H
    clear H
    go_wp2
    go_meet
    case rel => exact ⟨_, (false), (by rfl), H', ⟨by omega⟩, ⟨HB.out⟩⟩
  case rest =>
   clear HC6
   try clear c2b0
   try clear c2b1
   obtain ⟨kq, x9_5, rfl, HA, HJ5, HB⟩ := hcut
   cases kq with
   | zero => exact absurd HA.out (by simp [laws_FnProofDiffer.j0])
   | succ kj5 =>
    have H := HA.out
    clear HA
    simp only [laws_FnProofDiffer.j0] at H
    by_cases c11 : x9_5 = true
    ·subst c11
     replace H : ((impl_SetIn.f t913).bind fun t919 => (if t919 = true then ((impl_SetIn.f t914).bind fun t920 => (if t920 = true then ((impl_SetSame.f kj5 t913 t914).bind fun t921 => (if (t916 == (!t921)) = true then (if t916 = true then ((impl_ProofDifferIs.f t913 t914 t915).bind fun t922 => (some t922)) else (some true)) else (some false))) else (if (t916 == false) = true then (if t916 = true then ((impl_ProofDifferIs.f t913 t914 t915).bind fun t923 => (some t923)) else (some true)) else (some false)))) else (if (t916 == false) = true then (if t916 = true then ((impl_ProofDifferIs.f t913 t914 t915).bind fun t924 => (some t924)) else (some true)) else (some false)))) = some r := by rw [if_pos rfl] at H; exact H
     replace H := Option.bind_eq_some_iff.mp H
     obtain ⟨t919, A120, H⟩ := H
     replace H : (if t919 = true then ((impl_SetIn.f t914).bind fun t920 => (if t920 = true then ((impl_SetSame.f kj5 t913 t914).bind fun t921 => (if (t916 == (!t921)) = true then (if t916 = true then ((impl_ProofDifferIs.f t913 t914 t915).bind fun t922 => (some t922)) else (some true)) else (some false))) else (if (t916 == false) = true then (if t916 = true then ((impl_ProofDifferIs.f t913 t914 t915).bind fun t923 => (some t923)) else (some true)) else (some false)))) else (if (t916 == false) = true then (if t916 = true then ((impl_ProofDifferIs.f t913 t914 t915).bind fun t924 => (some t924)) else (some true)) else (some false))) = some r := H
     have A12 := Aside0.mk A120
     clear A120
     by_cases c13 : t919 = true
     ·subst c13
      replace H : ((impl_SetIn.f t914).bind fun t920 => (if t920 = true then ((impl_SetSame.f kj5 t913 t914).bind fun t921 => (if (t916 == (!t921)) = true then (if t916 = true then ((impl_ProofDifferIs.f t913 t914 t915).bind fun t922 => (some t922)) else (some true)) else (some false))) else (if (t916 == false) = true then (if t916 = true then ((impl_ProofDifferIs.f t913 t914 t915).bind fun t923 => (some t923)) else (some true)) else (some false)))) = some r := by rw [if_pos rfl] at H; exact H
      replace H := Option.bind_eq_some_iff.mp H
      obtain ⟨t920, A140, H⟩ := H
      replace H : (if t920 = true then ((impl_SetSame.f kj5 t913 t914).bind fun t921 => (if (t916 == (!t921)) = true then (if t916 = true then ((impl_ProofDifferIs.f t913 t914 t915).bind fun t922 => (some t922)) else (some true)) else (some false))) else (if (t916 == false) = true then (if t916 = true then ((impl_ProofDifferIs.f t913 t914 t915).bind fun t923 => (some t923)) else (some true)) else (some false))) = some r := H
      have A14 := Aside0.mk A140
      clear A140
      by_cases c15 : t920 = true
      ·subst c15
       replace H : ((impl_SetSame.f kj5 t913 t914).bind fun t921 => (if (t916 == (!t921)) = true then (if t916 = true then ((impl_ProofDifferIs.f t913 t914 t915).bind fun t922 => (some t922)) else (some true)) else (some false))) = some r := by rw [if_pos rfl] at H; exact H
       replace H := Option.bind_eq_some_iff.mp H
       obtain ⟨t921, A160, H⟩ := H
       replace H : (if (t916 == (!t921)) = true then (if t916 = true then ((impl_ProofDifferIs.f t913 t914 t915).bind fun t922 => (some t922)) else (some true)) else (some false)) = some r := H
       have A16 := Aside0.mk A160
       clear A160
       by_cases c17 : (t916 == (!t921)) = true
       ·rw [if_pos c17] at H
        have c17b0 : (t916 == (!t921)) = true := c17
        (try (have c17b1 : decide (t916 = (!t921)) = true := by simpa using c17))
        (try (have c17b2 : (t916 == (!t921)) = true := by simpa using c17))
        clear c17
        by_cases c18 : t916 = true
        ·subst c18
         replace H : ((impl_ProofDifferIs.f t913 t914 t915).bind fun t922 => (some t922)) = some r := by rw [if_pos rfl] at H; exact H
         replace H := Option.bind_eq_some_iff.mp H
         obtain ⟨t922, A190, H⟩ := H
         replace H : (some t922) = some r := H
         have A19 := Aside0.mk A190
         clear A190
         obtain rfl := Option.some.inj H
         go_wp2_with (first | ((with_reducible refine gate_callee (f := 34) rfl ?_); refine goesL_ (some 42) rfl rfl Tryd.func34 (by kernel_rfl) rfl #[.string t913] rfl (by (try simp only [List.map_toArray, List.map_cons, List.map_nil]); rfl) ?_; (with_reducible refine (impl_SetIn.calls t913 true _ A12.out).mono ?_); rintro e w20 ⟨rfl, hb⟩; refine ⟨_, rfl, ?_⟩; replace HB := Aside0.mk (below_step HB.out hb); (try clear hb)) | (go_at_call 34; (with_reducible refine (impl_SetIn.calls t914 true _ A14.out).mono ?_); rintro e w21 ⟨rfl, hb⟩; replace HB := Aside0.mk (below_step HB.out hb); (try clear hb)) | (go_at_call 33; (with_reducible refine (impl_SetSame.calls kj5 t913 t914 t921 _ A16.out).mono ?_); rintro e w22 ⟨rfl, hb⟩; replace HB := Aside0.mk (below_step HB.out hb); (try clear hb)) | (go_at_call 30; (with_reducible refine (impl_ProofDifferIs.calls t913 t914 t915 t922 _ A19.out (GlobN.below hG HB.out)).mono ?_); rintro e w23 ⟨rfl, hb⟩; replace HB := Aside0.mk (below_step HB.out hb); (try clear hb)))
         go_ret
         exact ⟨by first | rfl | (simp [*, errW_none, errW_some] <;> rfl), HB.out⟩
        ·replace c18 := Bool.eq_false_iff.mpr c18
         subst c18
         replace H : (some true) = some r := by rw [if_neg (show ¬ (false = true) by decide)] at H; exact H
         obtain rfl := Option.some.inj H
         go_wp2_with (first | ((with_reducible refine gate_callee (f := 34) rfl ?_); refine goesL_ (some 42) rfl rfl Tryd.func34 (by kernel_rfl) rfl #[.string t913] rfl (by (try simp only [List.map_toArray, List.map_cons, List.map_nil]); rfl) ?_; (with_reducible refine (impl_SetIn.calls t913 true _ A12.out).mono ?_); rintro e w24 ⟨rfl, hb⟩; refine ⟨_, rfl, ?_⟩; replace HB := Aside0.mk (below_step HB.out hb); (try clear hb)) | (go_at_call 34; (with_reducible refine (impl_SetIn.calls t914 true _ A14.out).mono ?_); rintro e w25 ⟨rfl, hb⟩; replace HB := Aside0.mk (below_step HB.out hb); (try clear hb)) | (go_at_call 33; (with_reducible refine (impl_SetSame.calls kj5 t913 t914 t921 _ A16.out).mono ?_); rintro e w26 ⟨rfl, hb⟩; replace HB := Aside0.mk (below_step HB.out hb); (try clear hb)))
         go_ret
         exact ⟨by first | rfl | (simp [*, errW_none, errW_some] <;> rfl), HB.out⟩
       ·rw [if_neg c17] at H
        have c17b0 : (t916 == (!t921)) = false := by simpa using c17
        (try (have c17b1 : decide (t916 = (!t921)) = false := by simpa using c17))
        (try (have c17b2 : (t916 == (!t921)) = false := by simpa using c17))
        (try (have c17b3 : ¬ (t916 = (!t921)) := by simpa using c17))
        clear c17
        obtain rfl := Option.some.inj H
        go_wp2_with (first | ((with_reducible refine gate_callee (f := 34) rfl ?_); refine goesL_ (some 42) rfl rfl Tryd.func34 (by kernel_rfl) rfl #[.string t913] rfl (by (try simp only [List.map_toArray, List.map_cons, List.map_nil]); rfl) ?_; (with_reducible refine (impl_SetIn.calls t913 true _ A12.out).mono ?_); rintro e w27 ⟨rfl, hb⟩; refine ⟨_, rfl, ?_⟩; replace HB := Aside0.mk (below_step HB.out hb); (try clear hb)) | (go_at_call 34; (with_reducible refine (impl_SetIn.calls t914 true _ A14.out).mono ?_); rintro e w28 ⟨rfl, hb⟩; replace HB := Aside0.mk (below_step HB.out hb); (try clear hb)) | (go_at_call 33; (with_reducible refine (impl_SetSame.calls kj5 t913 t914 t921 _ A16.out).mono ?_); rintro e w29 ⟨rfl, hb⟩; replace HB := Aside0.mk (below_step HB.out hb); (try clear hb)))
        go_ret
        exact ⟨by first | rfl | (simp [*, errW_none, errW_some] <;> rfl), HB.out⟩
      ·replace c15 := Bool.eq_false_iff.mpr c15
       subst c15
       replace H : (if (t916 == false) = true then (if t916 = true then ((impl_ProofDifferIs.f t913 t914 t915).bind fun t923 => (some t923)) else (some true)) else (some false)) = some r := by rw [if_neg (show ¬ (false = true) by decide)] at H; exact H
       by_cases c30 : (t916 == false) = true
       ·rw [if_pos c30] at H
        have c30b0 : (t916 == false) = true := c30
        (try (have c30b1 : decide (t916 = false) = true := by simpa using c30))
        (try (have c30b2 : (t916 == false) = true := by simpa using c30))
        clear c30
        by_cases c31 : t916 = true
        ·subst c31
         replace H : ((impl_ProofDifferIs.f t913 t914 t915).bind fun t923 => (some t923)) = some r := by rw [if_pos rfl] at H; exact H
         replace H := Option.bind_eq_some_iff.mp H
         obtain ⟨t923, A320, H⟩ := H
         replace H : (some t923) = some r := H
         have A32 := Aside0.mk A320
         clear A320
         obtain rfl := Option.some.inj H
         go_wp2_with (first | ((with_reducible refine gate_callee (f := 34) rfl ?_); refine goesL_ (some 42) rfl rfl Tryd.func34 (by kernel_rfl) rfl #[.string t913] rfl (by (try simp only [List.map_toArray, List.map_cons, List.map_nil]); rfl) ?_; (with_reducible refine (impl_SetIn.calls t913 true _ A12.out).mono ?_); rintro e w33 ⟨rfl, hb⟩; refine ⟨_, rfl, ?_⟩; replace HB := Aside0.mk (below_step HB.out hb); (try clear hb)) | (go_at_call 34; (with_reducible refine (impl_SetIn.calls t914 false _ A14.out).mono ?_); rintro e w34 ⟨rfl, hb⟩; replace HB := Aside0.mk (below_step HB.out hb); (try clear hb)) | (go_at_call 30; (with_reducible refine (impl_ProofDifferIs.calls t913 t914 t915 t923 _ A32.out (GlobN.below hG HB.out)).mono ?_); rintro e w35 ⟨rfl, hb⟩; replace HB := Aside0.mk (below_step HB.out hb); (try clear hb)))
         go_ret
         exact ⟨by first | rfl | (simp [*, errW_none, errW_some] <;> rfl), HB.out⟩
        ·replace c31 := Bool.eq_false_iff.mpr c31
         subst c31
         replace H : (some true) = some r := by rw [if_neg (show ¬ (false = true) by decide)] at H; exact H
         obtain rfl := Option.some.inj H
         go_wp2_with (first | ((with_reducible refine gate_callee (f := 34) rfl ?_); refine goesL_ (some 42) rfl rfl Tryd.func34 (by kernel_rfl) rfl #[.string t913] rfl (by (try simp only [List.map_toArray, List.map_cons, List.map_nil]); rfl) ?_; (with_reducible refine (impl_SetIn.calls t913 true _ A12.out).mono ?_); rintro e w36 ⟨rfl, hb⟩; refine ⟨_, rfl, ?_⟩; replace HB := Aside0.mk (below_step HB.out hb); (try clear hb)) | (go_at_call 34; (with_reducible refine (impl_SetIn.calls t914 false _ A14.out).mono ?_); rintro e w37 ⟨rfl, hb⟩; replace HB := Aside0.mk (below_step HB.out hb); (try clear hb)))
         go_ret
         exact ⟨by first | rfl | (simp [*, errW_none, errW_some] <;> rfl), HB.out⟩
       ·rw [if_neg c30] at H
        have c30b0 : (t916 == false) = false := by simpa using c30
        (try (have c30b1 : decide (t916 = false) = false := by simpa using c30))
        (try (have c30b2 : (t916 == false) = false := by simpa using c30))
        (try (have c30b3 : ¬ (t916 = false) := by simpa using c30))
        clear c30
        obtain rfl := Option.some.inj H
        go_wp2_with (first | ((with_reducible refine gate_callee (f := 34) rfl ?_); refine goesL_ (some 42) rfl rfl Tryd.func34 (by kernel_rfl) rfl #[.string t913] rfl (by (try simp only [List.map_toArray, List.map_cons, List.map_nil]); rfl) ?_; (with_reducible refine (impl_SetIn.calls t913 true _ A12.out).mono ?_); rintro e w38 ⟨rfl, hb⟩; refine ⟨_, rfl, ?_⟩; replace HB := Aside0.mk (below_step HB.out hb); (try clear hb)) | (go_at_call 34; (with_reducible refine (impl_SetIn.calls t914 false _ A14.out).mono ?_); rintro e w39 ⟨rfl, hb⟩; replace HB := Aside0.mk (below_step HB.out hb); (try clear hb)))
        go_ret
        exact ⟨by first | rfl | (simp [*, errW_none, errW_some] <;> rfl), HB.out⟩
     ·replace c13 := Bool.eq_false_iff.mpr c13
      subst c13
      replace H : (if (t916 == false) = true then (if t916 = true then ((impl_ProofDifferIs.f t913 t914 t915).bind fun t924 => (some t924)) else (some true)) else (some false)) = some r := by rw [if_neg (show ¬ (false = true) by decide)] at H; exact H
      by_cases c40 : (t916 == false) = true
      ·rw [if_pos c40] at H
       have c40b0 : (t916 == false) = true := c40
       (try (have c40b1 : decide (t916 = false) = true := by simpa using c40))
       (try (have c40b2 : (t916 == false) = true := by simpa using c40))
       clear c40
       by_cases c41 : t916 = true
       ·subst c41
        replace H : ((impl_ProofDifferIs.f t913 t914 t915).bind fun t924 => (some t924)) = some r := by rw [if_pos rfl] at H; exact H
        replace H := Option.bind_eq_some_iff.mp H
        obtain ⟨t924, A420, H⟩ := H
        replace H : (some t924) = some r := H
        have A42 := Aside0.mk A420
        clear A420
        obtain rfl := Option.some.inj H
        go_wp2_with (first | ((with_reducible refine gate_callee (f := 34) rfl ?_); refine goesL_ (some 42) rfl rfl Tryd.func34 (by kernel_rfl) rfl #[.string t913] rfl (by (try simp only [List.map_toArray, List.map_cons, List.map_nil]); rfl) ?_; (with_reducible refine (impl_SetIn.calls t913 false _ A12.out).mono ?_); rintro e w43 ⟨rfl, hb⟩; refine ⟨_, rfl, ?_⟩; replace HB := Aside0.mk (below_step HB.out hb); (try clear hb)) | (go_at_call 30; (with_reducible refine (impl_ProofDifferIs.calls t913 t914 t915 t924 _ A42.out (GlobN.below hG HB.out)).mono ?_); rintro e w44 ⟨rfl, hb⟩; replace HB := Aside0.mk (below_step HB.out hb); (try clear hb)))
        go_ret
        exact ⟨by first | rfl | (simp [*, errW_none, errW_some] <;> rfl), HB.out⟩
       ·replace c41 := Bool.eq_false_iff.mpr c41
        subst c41
        replace H : (some true) = some r := by rw [if_neg (show ¬ (false = true) by decide)] at H; exact H
        obtain rfl := Option.some.inj H
        go_wp2_with (first | ((with_reducible refine gate_callee (f := 34) rfl ?_); refine goesL_ (some 42) rfl rfl Tryd.func34 (by kernel_rfl) rfl #[.string t913] rfl (by (try simp only [List.map_toArray, List.map_cons, List.map_nil]); rfl) ?_; (with_reducible refine (impl_SetIn.calls t913 false _ A12.out).mono ?_); rintro e w45 ⟨rfl, hb⟩; refine ⟨_, rfl, ?_⟩; replace HB := Aside0.mk (below_step HB.out hb); (try clear hb)))
        go_ret
        exact ⟨by first | rfl | (simp [*, errW_none, errW_some] <;> rfl), HB.out⟩
      ·rw [if_neg c40] at H
       have c40b0 : (t916 == false) = false := by simpa using c40
       (try (have c40b1 : decide (t916 = false) = false := by simpa using c40))
       (try (have c40b2 : (t916 == false) = false := by simpa using c40))
       (try (have c40b3 : ¬ (t916 = false) := by simpa using c40))
       clear c40
       obtain rfl := Option.some.inj H
       go_wp2_with (first | ((with_reducible refine gate_callee (f := 34) rfl ?_); refine goesL_ (some 42) rfl rfl Tryd.func34 (by kernel_rfl) rfl #[.string t913] rfl (by (try simp only [List.map_toArray, List.map_cons, List.map_nil]); rfl) ?_; (with_reducible refine (impl_SetIn.calls t913 false _ A12.out).mono ?_); rintro e w46 ⟨rfl, hb⟩; refine ⟨_, rfl, ?_⟩; replace HB := Aside0.mk (below_step HB.out hb); (try clear hb)))
       go_ret
       exact ⟨by first | rfl | (simp [*, errW_none, errW_some] <;> rfl), HB.out⟩
    ·replace c11 := Bool.eq_false_iff.mpr c11
     subst c11
     replace H : (some false) = some r := by rw [if_neg (show ¬ (false = true) by decide)] at H; exact H
     obtain rfl := Option.some.inj H
     go_wp2
     go_ret
     exact ⟨by first | rfl | (simp [*, errW_none, errW_some] <;> rfl), HB.out⟩

/-- THE ONE PURE STATEMENT of laws_FnProofDiffer: yours. -/
def laws_FnProofDiffer.Pure : Prop := ∀ (l0 : List Int), l0.length ≤ maxLen → l0.length * 1 ≤ 140737488351232 → (∀ x ∈ l0, (Lit.int .u8 x).wf = true) → ∃ k, laws_FnProofDiffer.f k l0 = some true
theorem laws_FnProofDiffer.walk (P : laws_FnProofDiffer.Pure) (a0 : Option Addr) (len0 cap0 : Nat) (z0 : List Int) (w : World) (w0 : (a0 = none ∧ len0 = 0 ∧ cap0 = 0 ∧ z0 = []) ∨ ∃ x, a0 = some x ∧ len0 ≤ cap0 ∧ cap0 ≤ maxLen ∧ z0.length = cap0 ∧ (∀ i, i < z0.length → w.cell? (x.add i) = some (.int .u8 (z0.getD i 0))) ∧ ∀ n ∈ z0, (Lit.int .u8 n).wf = true) (y0 : len0 * 1 ≤ 140737488351232) (hG : GlobN w) :
  Calls Tryd.prog 14 #[.slice a0 len0 cap0] w fun e w' => e = .returned (.bool true) ∧ Below w.heap.size w w' := by
 obtain ⟨l0, rfl, hr0, hm0, hw0, hc0⟩ := ReadsInt.ofRowC w0
 obtain ⟨k, h⟩ := P l0 hm0 y0 hw0
 refine (laws_FnProofDiffer.calls k _ _ l0 true w (Kd.C_of_reads (d := (0 : Int)) (h1 := fun _ => rfl) hr0) hc0 h hG).mono ?_
 rintro e w' ⟨rfl, hd⟩
 exact ⟨rfl, hd⟩

end Go.Proofs.YtinjblbfaijhdaaDoor.Q
