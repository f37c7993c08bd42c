/- The law FnProofDifferIs holds for all that it draws. -/
import Derived.Test.YtinjblbfaijhdaaDoorCFnProofDifferIs10
import Derived.Test.YtinjblbfaijhdaaDoorCFnProofDifferIs12
import Derived.Test.YtinjblbfaijhdaaDoorCFnProofDifferIs13
import Derived.Test.YtinjblbfaijhdaaDoorCFnProofDifferIs16
import Derived.Test.YtinjblbfaijhdaaDoorCFnProofDifferIs18
namespace Go.Proofs.YtinjblbfaijhdaaDoor.Q
open Go.RowKit Go.Proofs.YtinjblbfaijhdaaDoorW.PrintWords Go.Proofs.YtinjblbfaijhdaaDoorW.PrintLast Go.Proofs.YtinjblbfaijhdaaDoorW.PrintMore
attribute [local go_sem] max2_int min2_int max_two min_two max_three min_three max_four min_four   -- for this text's walks alone
set_option linter.unusedVariables false
set_option linter.unusedSimpArgs false
def laws_FnProofDifferIs.f (k : Nat) (l0 : List Int) : Option (Bool) := if (l0.length : Int) > 1048576 then (some true) else ((spec_DrawProofDifferIs.f k l0).bind fun bt870 => ((impl_ProofDifferIs.f bt870.1 bt870.2.1 bt870.2.2).bind fun t873 => ((spec_ProofDifferIs.f k bt870.1 bt870.2.1 bt870.2.2).bind fun t874 => (if ((t873 == t874) = true) then (if t873 = true then ((impl_SetSame.f k bt870.1 bt870.2.1).bind fun t875 => (if t875 = true then (some false) else ((impl_SetIn.f bt870.1).bind fun t876 => (if t876 = true then ((impl_SetIn.f bt870.2.1).bind fun t877 => (if t877 = true then ((impl_ProofDifferIs.f bt870.1 bt870.1 bt870.2.2).bind fun t878 => (some (!t878))) else (some false))) else (some false))))) else (some true)) else (some false)))))
theorem laws_FnProofDifferIs.mono : ∀ a0 k, LeO (laws_FnProofDifferIs.f k a0) (laws_FnProofDifferIs.f (k + 1) a0) := by
 intro a0 k
 unfold laws_FnProofDifferIs.f
 repeat' first | (with_reducible exact impl_SetSame.mono _ _ _) | (with_reducible exact spec_DrawProofDifferIs.mono _ _) | (with_reducible exact spec_ProofDifferIs.mono _ _ _ _) | (with_reducible exact LeO.refl _) | (with_reducible refine LeO.ite ?_ ?_) | (with_reducible refine LeO.bind ?_ (fun _ => ?_))
set_option maxHeartbeats 8000000 in
set_option maxRecDepth 100000 in
theorem laws_FnProofDifferIs.calls (k : Nat) (A0 : Option Addr) (c0 : Nat) (l0 : List Int) (r : Bool) (w : World) (hr0 : Kd.C (Kd.int .u8) w A0 l0.length l0) (hc0 : l0.length ≤ c0) (h : laws_FnProofDifferIs.f k l0 = some r) (hG : GlobN w) :
  Calls Tryd.prog 12 #[.slice A0 l0.length c0] w fun e w' => e = .returned (.bool r) ∧ Below w.heap.size w w' := by
 have HR0 := Aside0.mk hr0
 have HC0 := Aside0.mk hc0
 clear hr0 hc0
 have HB := Aside0.mk (Below.refl w.heap.size w)
 have H : (if (l0.length : Int) > 1048576 then (some true) else ((spec_DrawProofDifferIs.f k l0).bind fun bt870 => ((impl_ProofDifferIs.f bt870.1 bt870.2.1 bt870.2.2).bind fun t873 => ((spec_ProofDifferIs.f k bt870.1 bt870.2.1 bt870.2.2).bind fun t874 => (if ((t873 == t874) = true) then (if t873 = true then ((impl_SetSame.f k bt870.1 bt870.2.1).bind fun t875 => (if t875 = true then (some false) else ((impl_SetIn.f bt870.1).bind fun t876 => (if t876 = true then ((impl_SetIn.f bt870.2.1).bind fun t877 => (if t877 = true then ((impl_ProofDifferIs.f bt870.1 bt870.1 bt870.2.2).bind fun t878 => (some (!t878))) else (some false))) else (some false))))) else (some true)) else (some false)))))) = some r := h
 clear h
 by_cases c2 : (l0.length : Int) > 1048576
 ·rw [if_pos c2] at H
  have c2b0 : decide (1048576 < (l0.length : Int)) = true := decide_eq_true c2
  have c2b1 : decide (1048576 < l0.length) = true := decide_eq_true (by omega)
  clear c2
  obtain rfl := Option.some.inj H
  go_enter Tryd.func12, Tryd.ntmps12
  go_wp2
  go_ret
  exact ⟨by first | rfl | (simp [*, errW_none, errW_some] <;> rfl), HB.out⟩
 ·rw [if_neg c2] at H
  have c2b0 : decide (1048576 < (l0.length : Int)) = false := decide_eq_false c2
  have c2b1 : decide (1048576 < l0.length) = false := decide_eq_false (by omega)
  clear c2
  replace H := Option.bind_eq_some_iff.mp H
  obtain ⟨⟨t870, t871, t872⟩, A30, H⟩ := H
  replace H : ((impl_ProofDifferIs.f t870 t871 t872).bind fun t873 => ((spec_ProofDifferIs.f k t870 t871 t872).bind fun t874 => (if ((t873 == t874) = true) then (if t873 = true then ((impl_SetSame.f k t870 t871).bind fun t875 => (if t875 = true then (some false) else ((impl_SetIn.f t870).bind fun t876 => (if t876 = true then ((impl_SetIn.f t871).bind fun t877 => (if t877 = true then ((impl_ProofDifferIs.f t870 t870 t872).bind fun t878 => (some (!t878))) else (some false))) else (some false))))) else (some true)) else (some false)))) = some r := H
  have A3 := Aside0.mk A30
  clear A30
  replace H := Option.bind_eq_some_iff.mp H
  obtain ⟨t873, A40, H⟩ := H
  replace H : ((spec_ProofDifferIs.f k t870 t871 t872).bind fun t874 => (if ((t873 == t874) = true) then (if t873 = true then ((impl_SetSame.f k t870 t871).bind fun t875 => (if t875 = true then (some false) else ((impl_SetIn.f t870).bind fun t876 => (if t876 = true then ((impl_SetIn.f t871).bind fun t877 => (if t877 = true then ((impl_ProofDifferIs.f t870 t870 t872).bind fun t878 => (some (!t878))) else (some false))) else (some false))))) else (some true)) else (some false))) = some r := H
  have A4 := Aside0.mk A40
  clear A40
  replace H := Option.bind_eq_some_iff.mp H
  obtain ⟨t874, A50, H⟩ := H
  replace H : (if ((t873 == t874) = true) then (if t873 = true then ((impl_SetSame.f k t870 t871).bind fun t875 => (if t875 = true then (some false) else ((impl_SetIn.f t870).bind fun t876 => (if t876 = true then ((impl_SetIn.f t871).bind fun t877 => (if t877 = true then ((impl_ProofDifferIs.f t870 t870 t872).bind fun t878 => (some (!t878))) else (some false))) else (some false))))) else (some true)) else (some false)) = some r := H
  have A5 := Aside0.mk A50
  clear A50
  by_cases c6 : ((t873 == t874) = true)
  ·rw [if_pos c6] at H
   have c6b0 : (t873 == t874) = true := c6
   (try (have c6b1 : decide (t873 = t874) = true := by simpa using c6))
   (try (have c6b2 : (t873 == t874) = true := by simpa using c6))
   clear c6
   by_cases c7 : t873 = true
   ·subst c7
    replace H : ((impl_SetSame.f k t870 t871).bind fun t875 => (if t875 = true then (some false) else ((impl_SetIn.f t870).bind fun t876 => (if t876 = true then ((impl_SetIn.f t871).bind fun t877 => (if t877 = true then ((impl_ProofDifferIs.f t870 t870 t872).bind fun t878 => (some (!t878))) else (some false))) else (some false))))) = some r := by rw [if_pos rfl] at H; exact H
    replace H := Option.bind_eq_some_iff.mp H
    obtain ⟨t875, A80, H⟩ := H
    replace H : (if t875 = true then (some false) else ((impl_SetIn.f t870).bind fun t876 => (if t876 = true then ((impl_SetIn.f t871).bind fun t877 => (if t877 = true then ((impl_ProofDifferIs.f t870 t870 t872).bind fun t878 => (some (!t878))) else (some false))) else (some false)))) = some r := H
    have A8 := Aside0.mk A80
    clear A80
    by_cases c9 : t875 = true
    ·subst c9
     replace H : (some false) = some r := by rw [if_pos rfl] at H; exact H
     obtain rfl := Option.some.inj H
     go_enter Tryd.func12, Tryd.ntmps12
     go_wp2_with (first | ((with_reducible refine gate_callee (f := 32) rfl ?_); refine goesL_ (some 14) rfl rfl Tryd.func32 (by kernel_rfl) rfl #[.slice A0 l0.length c0] rfl (by (try simp only [List.map_toArray, List.map_cons, List.map_nil]); rfl) ?_; (with_reducible refine (spec_DrawProofDifferIs.calls k _ _ l0 t870 t871 t872 _ ?side1 ?side2 A3.out).mono ?_); (case side1 => repeat (exact HR0.out)); (case side2 => exact HC0.out); rintro e w10 ⟨rfl, hb⟩; refine ⟨_, rfl, ?_⟩; replace HB := Aside0.mk (below_step HB.out hb); (try clear hb)) | ((with_reducible refine gate_callee (f := 30) rfl ?_); refine goesL_ (some 21) rfl rfl Tryd.func30 (by kernel_rfl) rfl #[.string t870, .string t871, .string t872] rfl (by (try simp only [List.map_toArray, List.map_cons, List.map_nil]); rfl) ?_; (with_reducible refine (impl_ProofDifferIs.calls t870 t871 t872 true _ A4.out (GlobN.below hG HB.out)).mono ?_); rintro e w11 ⟨rfl, hb⟩; refine ⟨_, rfl, ?_⟩; replace HB := Aside0.mk (below_step HB.out hb); (try clear hb)) | ((with_reducible refine gate_callee (f := 29) rfl ?_); refine goesL_ (some 25) rfl rfl Tryd.func29 (by kernel_rfl) rfl #[.string t870, .string t871, .string t872] rfl (by (try simp only [List.map_toArray, List.map_cons, List.map_nil]); rfl) ?_; (with_reducible refine (spec_ProofDifferIs.calls k t870 t871 t872 t874 _ A5.out).mono ?_); rintro e w12 ⟨rfl, hb⟩; refine ⟨_, rfl, ?_⟩; replace HB := Aside0.mk (below_step HB.out hb); (try clear hb)) | (go_at_call 33; (with_reducible refine (impl_SetSame.calls k t870 t871 true _ A8.out).mono ?_); rintro e w13 ⟨rfl, hb⟩; replace HB := Aside0.mk (below_step HB.out hb); (try clear hb)))
     go_ret
     exact ⟨by first | rfl | (simp [*, errW_none, errW_some] <;> rfl), HB.out⟩
    ·replace c9 := Bool.eq_false_iff.mpr c9
     subst c9
     replace H : ((impl_SetIn.f t870).bind fun t876 => (if t876 = true then ((impl_SetIn.f t871).bind fun t877 => (if t877 = true then ((impl_ProofDifferIs.f t870 t870 t872).bind fun t878 => (some (!t878))) else (some false))) else (some false))) = some r := by rw [if_neg (show ¬ (false = true) by decide)] at H; exact H
     replace H := Option.bind_eq_some_iff.mp H
     obtain ⟨t876, A140, H⟩ := H
     replace H : (if t876 = true then ((impl_SetIn.f t871).bind fun t877 => (if t877 = true then ((impl_ProofDifferIs.f t870 t870 t872).bind fun t878 => (some (!t878))) else (some false))) else (some false)) = some r := H
     have A14 := Aside0.mk A140
     clear A140
     by_cases c15 : t876 = true
     ·subst c15
      replace H : ((impl_SetIn.f t871).bind fun t877 => (if t877 = true then ((impl_ProofDifferIs.f t870 t870 t872).bind fun t878 => (some (!t878))) else (some false))) = some r := by rw [if_pos rfl] at H; exact H
      replace H := Option.bind_eq_some_iff.mp H
      obtain ⟨t877, A160, H⟩ := H
      replace H : (if t877 = true then ((impl_ProofDifferIs.f t870 t870 t872).bind fun t878 => (some (!t878))) else (some false)) = some r := H
      have A16 := Aside0.mk A160
      clear A160
      by_cases c17 : t877 = true
      ·subst c17
       replace H : ((impl_ProofDifferIs.f t870 t870 t872).bind fun t878 => (some (!t878))) = some r := by rw [if_pos rfl] at H; exact H
       replace H := Option.bind_eq_some_iff.mp H
       obtain ⟨t878, A180, H⟩ := H
       replace H : (some (!t878)) = some r := H
       have A18 := Aside0.mk A180
       clear A180
       obtain rfl := Option.some.inj H
       go_enter Tryd.func12, Tryd.ntmps12
       go_wp2_with (first | ((with_reducible refine gate_callee (f := 32) rfl ?_); refine goesL_ (some 14) rfl rfl Tryd.func32 (by kernel_rfl) rfl #[.slice A0 l0.length c0] rfl (by (try simp only [List.map_toArray, List.map_cons, List.map_nil]); rfl) ?_; (with_reducible refine (spec_DrawProofDifferIs.calls k _ _ l0 t870 t871 t872 _ ?side1 ?side2 A3.out).mono ?_); (case side1 => repeat (exact HR0.out)); (case side2 => exact HC0.out); rintro e w19 ⟨rfl, hb⟩; refine ⟨_, rfl, ?_⟩; replace HB := Aside0.mk (below_step HB.out hb); (try clear hb)) | ((with_reducible refine gate_callee (f := 30) rfl ?_); refine goesL_ (some 21) rfl rfl Tryd.func30 (by kernel_rfl) rfl #[.string t870, .string t871, .string t872] rfl (by (try simp only [List.map_toArray, List.map_cons, List.map_nil]); rfl) ?_; (with_reducible refine (impl_ProofDifferIs.calls t870 t871 t872 true _ A4.out (GlobN.below hG HB.out)).mono ?_); rintro e w20 ⟨rfl, hb⟩; refine ⟨_, rfl, ?_⟩; replace HB := Aside0.mk (below_step HB.out hb); (try clear hb)) | ((with_reducible refine gate_callee (f := 29) rfl ?_); refine goesL_ (some 25) rfl rfl Tryd.func29 (by kernel_rfl) rfl #[.string t870, .string t871, .string t872] rfl (by (try simp only [List.map_toArray, List.map_cons, List.map_nil]); rfl) ?_; (with_reducible refine (spec_ProofDifferIs.calls k t870 t871 t872 t874 _ A5.out).mono ?_); rintro e w21 ⟨rfl, hb⟩; refine ⟨_, rfl, ?_⟩; replace HB := Aside0.mk (below_step HB.out hb); (try clear hb)) | (go_at_call 33; (with_reducible refine (impl_SetSame.calls k t870 t871 false _ A8.out).mono ?_); rintro e w22 ⟨rfl, hb⟩; replace HB := Aside0.mk (below_step HB.out hb); (try clear hb)) | (go_at_call 34; (with_reducible refine (impl_SetIn.calls t870 true _ A14.out).mono ?_); rintro e w23 ⟨rfl, hb⟩; replace HB := Aside0.mk (below_step HB.out hb); (try clear hb)) | (go_at_call 34; (with_reducible refine (impl_SetIn.calls t871 true _ A16.out).mono ?_); rintro e w24 ⟨rfl, hb⟩; replace HB := Aside0.mk (below_step HB.out hb); (try clear hb)) | (go_at_call 30; (with_reducible refine (impl_ProofDifferIs.calls t870 t870 t872 t878 _ A18.out (GlobN.below hG HB.out)).mono ?_); rintro e w25 ⟨rfl, hb⟩; replace HB := Aside0.mk (below_step HB.out hb); (try clear hb)))
       go_ret
       exact ⟨by first | rfl | (simp [*, errW_none, errW_some] <;> rfl), HB.out⟩
      ·replace c17 := Bool.eq_false_iff.mpr c17
       subst c17
       replace H : (some false) = some r := by rw [if_neg (show ¬ (false = true) by decide)] at H; exact H
       obtain rfl := Option.some.inj H
       go_enter Tryd.func12, Tryd.ntmps12
       go_wp2_with (first | ((with_reducible refine gate_callee (f := 32) rfl ?_); refine goesL_ (some 14) rfl rfl Tryd.func32 (by kernel_rfl) rfl #[.slice A0 l0.length c0] rfl (by (try simp only [List.map_toArray, List.map_cons, List.map_nil]); rfl) ?_; (with_reducible refine (spec_DrawProofDifferIs.calls k _ _ l0 t870 t871 t872 _ ?side1 ?side2 A3.out).mono ?_); (case side1 => repeat (exact HR0.out)); (case side2 => exact HC0.out); rintro e w26 ⟨rfl, hb⟩; refine ⟨_, rfl, ?_⟩; replace HB := Aside0.mk (below_step HB.out hb); (try clear hb)) | ((with_reducible refine gate_callee (f := 30) rfl ?_); refine goesL_ (some 21) rfl rfl Tryd.func30 (by kernel_rfl) rfl #[.string t870, .string t871, .string t872] rfl (by (try simp only [List.map_toArray, List.map_cons, List.map_nil]); rfl) ?_; (with_reducible refine (impl_ProofDifferIs.calls t870 t871 t872 true _ A4.out (GlobN.below hG HB.out)).mono ?_); rintro e w27 ⟨rfl, hb⟩; refine ⟨_, rfl, ?_⟩; replace HB := Aside0.mk (below_step HB.out hb); (try clear hb)) | ((with_reducible refine gate_callee (f := 29) rfl ?_); refine goesL_ (some 25) rfl rfl Tryd.func29 (by kernel_rfl) rfl #[.string t870, .string t871, .string t872] rfl (by (try simp only [List.map_toArray, List.map_cons, List.map_nil]); rfl) ?_; (with_reducible refine (spec_ProofDifferIs.calls k t870 t871 t872 t874 _ A5.out).mono ?_); rintro e w28 ⟨rfl, hb⟩; refine ⟨_, rfl, ?_⟩; replace HB := Aside0.mk (below_step HB.out hb); (try clear hb)) | (go_at_call 33; (with_reducible refine (impl_SetSame.calls k t870 t871 false _ A8.out).mono ?_); rintro e w29 ⟨rfl, hb⟩; replace HB := Aside0.mk (below_step HB.out hb); (try clear hb)) | (go_at_call 34; (with_reducible refine (impl_SetIn.calls t870 true _ A14.out).mono ?_); rintro e w30 ⟨rfl, hb⟩; replace HB := Aside0.mk (below_step HB.out hb); (try clear hb)) | (go_at_call 34; (with_reducible refine (impl_SetIn.calls t871 false _ A16.out).mono ?_); rintro e w31 ⟨rfl, hb⟩; replace HB := Aside0.mk (below_step HB.out hb); (try clear hb)))
       go_ret
       exact ⟨by first | rfl | (simp [*, errW_none, errW_some] <;> rfl), HB.out⟩
     ·replace c15 := Bool.eq_false_iff.mpr c15
      subst c15
      replace H : (some false) = some r := by rw [if_neg (show ¬ (false = true) by decide)] at H; exact H
      obtain rfl := Option.some.inj H
      go_enter Tryd.func12, Tryd.ntmps12
      go_wp2_with (first | ((with_reducible refine gate_callee (f := 32) rfl ?_); refine goesL_ (some 14) rfl rfl Tryd.func32 (by kernel_rfl) rfl #[.slice A0 l0.length c0] rfl (by (try simp only [List.map_toArray, List.map_cons, List.map_nil]); rfl) ?_; (with_reducible refine (spec_DrawProofDifferIs.calls k _ _ l0 t870 t871 t872 _ ?side1 ?side2 A3.out).mono ?_); (case side1 => repeat (exact HR0.out)); (case side2 => exact HC0.out); rintro e w32 ⟨rfl, hb⟩; refine ⟨_, rfl, ?_⟩; replace HB := Aside0.mk (below_step HB.out hb); (try clear hb)) | ((with_reducible refine gate_callee (f := 30) rfl ?_); refine goesL_ (some 21) rfl rfl Tryd.func30 (by kernel_rfl) rfl #[.string t870, .string t871, .string t872] rfl (by (try simp only [List.map_toArray, List.map_cons, List.map_nil]); rfl) ?_; (with_reducible refine (impl_ProofDifferIs.calls t870 t871 t872 true _ A4.out (GlobN.below hG HB.out)).mono ?_); rintro e w33 ⟨rfl, hb⟩; refine ⟨_, rfl, ?_⟩; replace HB := Aside0.mk (below_step HB.out hb); (try clear hb)) | ((with_reducible refine gate_callee (f := 29) rfl ?_); refine goesL_ (some 25) rfl rfl Tryd.func29 (by kernel_rfl) rfl #[.string t870, .string t871, .string t872] rfl (by (try simp only [List.map_toArray, List.map_cons, List.map_nil]); rfl) ?_; (with_reducible refine (spec_ProofDifferIs.calls k t870 t871 t872 t874 _ A5.out).mono ?_); rintro e w34 ⟨rfl, hb⟩; refine ⟨_, rfl, ?_⟩; replace HB := Aside0.mk (below_step HB.out hb); (try clear hb)) | (go_at_call 33; (with_reducible refine (impl_SetSame.calls k t870 t871 false _ A8.out).mono ?_); rintro e w35 ⟨rfl, hb⟩; replace HB := Aside0.mk (below_step HB.out hb); (try clear hb)) | (go_at_call 34; (with_reducible refine (impl_SetIn.calls t870 false _ A14.out).mono ?_); rintro e w36 ⟨rfl, hb⟩; replace HB := Aside0.mk (below_step HB.out hb); (try clear hb)))
      go_ret
      exact ⟨by first | rfl | (simp [*, errW_none, errW_some] <;> rfl), HB.out⟩
   ·replace c7 := Bool.eq_false_iff.mpr c7
    subst c7
    replace H : (some true) = some r := by rw [if_neg (show ¬ (false = true) by decide)] at H; exact H
    obtain rfl := Option.some.inj H
    go_enter Tryd.func12, Tryd.ntmps12
    go_wp2_with (first | ((with_reducible refine gate_callee (f := 32) rfl ?_); refine goesL_ (some 14) rfl rfl Tryd.func32 (by kernel_rfl) rfl #[.slice A0 l0.length c0] rfl (by (try simp only [List.map_toArray, List.map_cons, List.map_nil]); rfl) ?_; (with_reducible refine (spec_DrawProofDifferIs.calls k _ _ l0 t870 t871 t872 _ ?side1 ?side2 A3.out).mono ?_); (case side1 => repeat (exact HR0.out)); (case side2 => exact HC0.out); rintro e w37 ⟨rfl, hb⟩; refine ⟨_, rfl, ?_⟩; replace HB := Aside0.mk (below_step HB.out hb); (try clear hb)) | ((with_reducible refine gate_callee (f := 30) rfl ?_); refine goesL_ (some 21) rfl rfl Tryd.func30 (by kernel_rfl) rfl #[.string t870, .string t871, .string t872] rfl (by (try simp only [List.map_toArray, List.map_cons, List.map_nil]); rfl) ?_; (with_reducible refine (impl_ProofDifferIs.calls t870 t871 t872 false _ A4.out (GlobN.below hG HB.out)).mono ?_); rintro e w38 ⟨rfl, hb⟩; refine ⟨_, rfl, ?_⟩; replace HB := Aside0.mk (below_step HB.out hb); (try clear hb)) | ((with_reducible refine gate_callee (f := 29) rfl ?_); refine goesL_ (some 25) rfl rfl Tryd.func29 (by kernel_rfl) rfl #[.string t870, .string t871, .string t872] rfl (by (try simp only [List.map_toArray, List.map_cons, List.map_nil]); rfl) ?_; (with_reducible refine (spec_ProofDifferIs.calls k t870 t871 t872 t874 _ A5.out).mono ?_); rintro e w39 ⟨rfl, hb⟩; refine ⟨_, rfl, ?_⟩; replace HB := Aside0.mk (below_step HB.out hb); (try clear hb)))
    go_ret
    exact ⟨by first | rfl | (simp [*, errW_none, errW_some] <;> rfl), HB.out⟩
  ·rw [if_neg c6] at H
   have c6b0 : (t873 == t874) = false := by simpa using c6
   (try (have c6b1 : decide (t873 = t874) = false := by simpa using c6))
   (try (have c6b2 : (t873 == t874) = false := by simpa using c6))
   (try (have c6b3 : ¬ (t873 = t874) := by simpa using c6))
   clear c6
   obtain rfl := Option.some.inj H
   go_enter Tryd.func12, Tryd.ntmps12
   go_wp2_with (first | ((with_reducible refine gate_callee (f := 32) rfl ?_); refine goesL_ (some 14) rfl rfl Tryd.func32 (by kernel_rfl) rfl #[.slice A0 l0.length c0] rfl (by (try simp only [List.map_toArray, List.map_cons, List.map_nil]); rfl) ?_; (with_reducible refine (spec_DrawProofDifferIs.calls k _ _ l0 t870 t871 t872 _ ?side1 ?side2 A3.out).mono ?_); (case side1 => repeat (exact HR0.out)); (case side2 => exact HC0.out); rintro e w40 ⟨rfl, hb⟩; refine ⟨_, rfl, ?_⟩; replace HB := Aside0.mk (below_step HB.out hb); (try clear hb)) | ((with_reducible refine gate_callee (f := 30) rfl ?_); refine goesL_ (some 21) rfl rfl Tryd.func30 (by kernel_rfl) rfl #[.string t870, .string t871, .string t872] rfl (by (try simp only [List.map_toArray, List.map_cons, List.map_nil]); rfl) ?_; (with_reducible refine (impl_ProofDifferIs.calls t870 t871 t872 t873 _ A4.out (GlobN.below hG HB.out)).mono ?_); rintro e w41 ⟨rfl, hb⟩; refine ⟨_, rfl, ?_⟩; replace HB := Aside0.mk (below_step HB.out hb); (try clear hb)) | ((with_reducible refine gate_callee (f := 29) rfl ?_); refine goesL_ (some 25) rfl rfl Tryd.func29 (by kernel_rfl) rfl #[.string t870, .string t871, .string t872] rfl (by (try simp only [List.map_toArray, List.map_cons, List.map_nil]); rfl) ?_; (with_reducible refine (spec_ProofDifferIs.calls k t870 t871 t872 t874 _ A5.out).mono ?_); rintro e w42 ⟨rfl, hb⟩; refine ⟨_, rfl, ?_⟩; replace HB := Aside0.mk (below_step HB.out hb); (try clear hb)))
   go_ret
   exact ⟨by first | rfl | (simp [*, errW_none, errW_some] <;> rfl), HB.out⟩

/-- THE ONE PURE STATEMENT of laws_FnProofDifferIs: yours. -/
def laws_FnProofDifferIs.Pure : Prop := ∀ (l0 : List Int), l0.length ≤ maxLen → l0.length * 1 ≤ 140737488351232 → (∀ x ∈ l0, (Lit.int .u8 x).wf = true) → ∃ k, laws_FnProofDifferIs.f k l0 = some true
theorem laws_FnProofDifferIs.walk (P : laws_FnProofDifferIs.Pure) (a0 : Option Addr) (len0 cap0 : Nat) (z0 : List Int) (w : World) (w0 : (a0 = none ∧ len0 = 0 ∧ cap0 = 0 ∧ z0 = []) ∨ ∃ x, a0 = some x ∧ len0 ≤ cap0 ∧ cap0 ≤ maxLen ∧ z0.length = cap0 ∧ (∀ i, i < z0.length → w.cell? (x.add i) = some (.int .u8 (z0.getD i 0))) ∧ ∀ n ∈ z0, (Lit.int .u8 n).wf = true) (y0 : len0 * 1 ≤ 140737488351232) (hG : GlobN w) :
  Calls Tryd.prog 12 #[.slice a0 len0 cap0] w fun e w' => e = .returned (.bool true) ∧ Below w.heap.size w w' := by
 obtain ⟨l0, rfl, hr0, hm0, hw0, hc0⟩ := ReadsInt.ofRowC w0
 obtain ⟨k, h⟩ := P l0 hm0 y0 hw0
 refine (laws_FnProofDifferIs.calls k _ _ l0 true w (Kd.C_of_reads (d := (0 : Int)) (h1 := fun _ => rfl) hr0) hc0 h hG).mono ?_
 rintro e w' ⟨rfl, hd⟩
 exact ⟨rfl, hd⟩

end Go.Proofs.YtinjblbfaijhdaaDoor.Q
