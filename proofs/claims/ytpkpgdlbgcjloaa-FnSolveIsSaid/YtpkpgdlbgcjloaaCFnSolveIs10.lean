/- The law FnSolveIs holds for all that it draws. -/
import Derived.Test.YtpkpgdlbgcjloaaCFnSolveIs8
import Derived.Test.YtpkpgdlbgcjloaaCFnSolveIs9
namespace Go.Proofs.Ytpkpgdlbgcjloaa.Q
open Go.RowKit Go.Proofs.YtpkpgdlbgcjloaaW.PrintWords Go.Proofs.YtpkpgdlbgcjloaaW.PrintLast Go.Proofs.YtpkpgdlbgcjloaaW.PrintMore
attribute [local go_sem] max2_int min2_int max_two min_two max_three min_three max_four min_four   -- for this text's walks alone
set_option linter.unusedVariables false
set_option linter.unusedSimpArgs false
def spec_l91Set.f (k : Nat) (s0_0 : List Int) (s0_1 : Int) : Option (ByteArray × Int) := (spec_l91Signs.f k s0_0 s0_1 0 6).bind fun bt117 => (if bt117.1.size + 1 ≤ 9223372036854775807 then ((spec_l91Signs.f k s0_0 bt117.2 1 5).bind fun bt119 => (if bt117.1.size + 1 + bt119.1.size ≤ 9223372036854775807 then (if bt117.1.size + 1 + bt119.1.size + 1 ≤ 9223372036854775807 then ((spec_l6Rd_pick.f k s0_0 bt119.2 24).bind fun bt121 => (if bt121.1 = 0 then ((some (([(⟨#[]⟩ : ByteArray), (⟨#[48]⟩ : ByteArray), (⟨#[40, 41]⟩ : ByteArray), (⟨#[49, 40]⟩ : ByteArray), (⟨#[40, 48, 41, 41]⟩ : ByteArray), (⟨#[97, 40, 49, 41]⟩ : ByteArray), (⟨#[40, 49, 41, 48]⟩ : ByteArray), (⟨#[48, 49, 40, 48, 50, 41]⟩ : ByteArray), (⟨#[48, 40, 40, 49, 41]⟩ : ByteArray)] : List ByteArray) : List ByteArray)).bind fun y123 => ((spec_l6Rd_pick.f k s0_0 bt121.2 9).bind fun bt126 => (if 0 ≤ bt126.1 then (if bt126.1 < (y123.length : Int) then (some (rdOf ByteArray.empty y123 bt126.1, bt126.2)) else (none)) else (none)))) else (if bt121.1 = 1 then ((spec_l91Signs.f k s0_0 bt121.2 0 6).bind fun bt129 => (if bt129.1.size + 3 ≤ 9223372036854775807 then (some (bt129.1 ++ (⟨#[40, 48, 41]⟩ : ByteArray), bt129.2)) else (none))) else (if bt121.1 = 2 then (if 1 ≤ ((((bt117.1 ++ (⟨#[40]⟩ : ByteArray)) ++ bt119.1) ++ (⟨#[41]⟩ : ByteArray)).size : Int) then (if 1 + ((((bt117.1 ++ (⟨#[40]⟩ : ByteArray)) ++ bt119.1) ++ (⟨#[41]⟩ : ByteArray)).extract 1 (((bt117.1 ++ (⟨#[40]⟩ : ByteArray)) ++ bt119.1) ++ (⟨#[41]⟩ : ByteArray)).size).size ≤ 9223372036854775807 then (some ((⟨#[40]⟩ : ByteArray) ++ ((((bt117.1 ++ (⟨#[40]⟩ : ByteArray)) ++ bt119.1) ++ (⟨#[41]⟩ : ByteArray)).extract 1 (((bt117.1 ++ (⟨#[40]⟩ : ByteArray)) ++ bt119.1) ++ (⟨#[41]⟩ : ByteArray)).size), bt121.2)) else (none)) else (none)) else (some (((bt117.1 ++ (⟨#[40]⟩ : ByteArray)) ++ bt119.1) ++ (⟨#[41]⟩ : ByteArray), bt121.2)))))) else (none)) else (none))) else (none))
theorem spec_l91Set.mono : ∀ a0 a1 k, LeO (spec_l91Set.f k a0 a1) (spec_l91Set.f (k + 1) a0 a1) := by
 intro a0 a1 k
 unfold spec_l91Set.f
 repeat' first | (with_reducible exact spec_l6Rd_pick.mono _ _ _ _) | (with_reducible exact spec_l91Signs.mono _ _ _ _ _) | (with_reducible exact LeO.refl _) | (with_reducible refine LeO.ite ?_ ?_) | (with_reducible refine LeO.bind ?_ (fun _ => ?_))
set_option maxHeartbeats 8000000 in
set_option maxRecDepth 100000 in
theorem spec_l91Set.calls (k : Nat) (g : Nat) (s0_0 : List Int) (s0_1 : Int) (r1 : ByteArray) (r2 : Int) (w0 w : World) (hI : IsS102 w0 w g s0_0 s0_1) (hB : Below w0.heap.size w0 w) (h : spec_l91Set.f k s0_0 s0_1 = some (r1, r2)) :
  Calls Try.prog 52 #[.pointer (some ⟨g, 0, none⟩)] w fun e w' => e = .returned (.string r1) ∧ IsS102 w0 w' g s0_0 r2 ∧ Below w0.heap.size w0 w' ∧ KeepBut w w' g none := by
 have HI0 := Aside0.mk hI
 have HK := Aside0.mk (KeepBut.refl w g none)
 have HL := Aside0.mk hB.size
 clear hI
 have HW0 := Aside0.mk hB.size
 have HB := Aside0.mk hB
 clear hB
 have H : ((spec_l91Signs.f k s0_0 s0_1 0 6).bind fun bt117 => (if bt117.1.size + 1 ≤ 9223372036854775807 then ((spec_l91Signs.f k s0_0 bt117.2 1 5).bind fun bt119 => (if bt117.1.size + 1 + bt119.1.size ≤ 9223372036854775807 then (if bt117.1.size + 1 + bt119.1.size + 1 ≤ 9223372036854775807 then ((spec_l6Rd_pick.f k s0_0 bt119.2 24).bind fun bt121 => (if bt121.1 = 0 then ((some (([(⟨#[]⟩ : ByteArray), (⟨#[48]⟩ : ByteArray), (⟨#[40, 41]⟩ : ByteArray), (⟨#[49, 40]⟩ : ByteArray), (⟨#[40, 48, 41, 41]⟩ : ByteArray), (⟨#[97, 40, 49, 41]⟩ : ByteArray), (⟨#[40, 49, 41, 48]⟩ : ByteArray), (⟨#[48, 49, 40, 48, 50, 41]⟩ : ByteArray), (⟨#[48, 40, 40, 49, 41]⟩ : ByteArray)] : List ByteArray) : List ByteArray)).bind fun y123 => ((spec_l6Rd_pick.f k s0_0 bt121.2 9).bind fun bt126 => (if 0 ≤ bt126.1 then (if bt126.1 < (y123.length : Int) then (some (rdOf ByteArray.empty y123 bt126.1, bt126.2)) else (none)) else (none)))) else (if bt121.1 = 1 then ((spec_l91Signs.f k s0_0 bt121.2 0 6).bind fun bt129 => (if bt129.1.size + 3 ≤ 9223372036854775807 then (some (bt129.1 ++ (⟨#[40, 48, 41]⟩ : ByteArray), bt129.2)) else (none))) else (if bt121.1 = 2 then (if 1 ≤ ((((bt117.1 ++ (⟨#[40]⟩ : ByteArray)) ++ bt119.1) ++ (⟨#[41]⟩ : ByteArray)).size : Int) then (if 1 + ((((bt117.1 ++ (⟨#[40]⟩ : ByteArray)) ++ bt119.1) ++ (⟨#[41]⟩ : ByteArray)).extract 1 (((bt117.1 ++ (⟨#[40]⟩ : ByteArray)) ++ bt119.1) ++ (⟨#[41]⟩ : ByteArray)).size).size ≤ 9223372036854775807 then (some ((⟨#[40]⟩ : ByteArray) ++ ((((bt117.1 ++ (⟨#[40]⟩ : ByteArray)) ++ bt119.1) ++ (⟨#[41]⟩ : ByteArray)).extract 1 (((bt117.1 ++ (⟨#[40]⟩ : ByteArray)) ++ bt119.1) ++ (⟨#[41]⟩ : ByteArray)).size), bt121.2)) else (none)) else (none)) else (some (((bt117.1 ++ (⟨#[40]⟩ : ByteArray)) ++ bt119.1) ++ (⟨#[41]⟩ : ByteArray), bt121.2)))))) else (none)) else (none))) else (none))) = some (r1, r2) := h
 clear h
 replace H := Option.bind_eq_some_iff.mp H
 obtain ⟨⟨t117, t118⟩, A20, H⟩ := H
 replace H : (if t117.size + 1 ≤ 9223372036854775807 then ((spec_l91Signs.f k s0_0 t118 1 5).bind fun bt119 => (if t117.size + 1 + bt119.1.size ≤ 9223372036854775807 then (if t117.size + 1 + bt119.1.size + 1 ≤ 9223372036854775807 then ((spec_l6Rd_pick.f k s0_0 bt119.2 24).bind fun bt121 => (if bt121.1 = 0 then ((some (([(⟨#[]⟩ : ByteArray), (⟨#[48]⟩ : ByteArray), (⟨#[40, 41]⟩ : ByteArray), (⟨#[49, 40]⟩ : ByteArray), (⟨#[40, 48, 41, 41]⟩ : ByteArray), (⟨#[97, 40, 49, 41]⟩ : ByteArray), (⟨#[40, 49, 41, 48]⟩ : ByteArray), (⟨#[48, 49, 40, 48, 50, 41]⟩ : ByteArray), (⟨#[48, 40, 40, 49, 41]⟩ : ByteArray)] : List ByteArray) : List ByteArray)).bind fun y123 => ((spec_l6Rd_pick.f k s0_0 bt121.2 9).bind fun bt126 => (if 0 ≤ bt126.1 then (if bt126.1 < (y123.length : Int) then (some (rdOf ByteArray.empty y123 bt126.1, bt126.2)) else (none)) else (none)))) else (if bt121.1 = 1 then ((spec_l91Signs.f k s0_0 bt121.2 0 6).bind fun bt129 => (if bt129.1.size + 3 ≤ 9223372036854775807 then (some (bt129.1 ++ (⟨#[40, 48, 41]⟩ : ByteArray), bt129.2)) else (none))) else (if bt121.1 = 2 then (if 1 ≤ ((((t117 ++ (⟨#[40]⟩ : ByteArray)) ++ bt119.1) ++ (⟨#[41]⟩ : ByteArray)).size : Int) then (if 1 + ((((t117 ++ (⟨#[40]⟩ : ByteArray)) ++ bt119.1) ++ (⟨#[41]⟩ : ByteArray)).extract 1 (((t117 ++ (⟨#[40]⟩ : ByteArray)) ++ bt119.1) ++ (⟨#[41]⟩ : ByteArray)).size).size ≤ 9223372036854775807 then (some ((⟨#[40]⟩ : ByteArray) ++ ((((t117 ++ (⟨#[40]⟩ : ByteArray)) ++ bt119.1) ++ (⟨#[41]⟩ : ByteArray)).extract 1 (((t117 ++ (⟨#[40]⟩ : ByteArray)) ++ bt119.1) ++ (⟨#[41]⟩ : ByteArray)).size), bt121.2)) else (none)) else (none)) else (some (((t117 ++ (⟨#[40]⟩ : ByteArray)) ++ bt119.1) ++ (⟨#[41]⟩ : ByteArray), bt121.2)))))) else (none)) else (none))) else (none)) = some (r1, r2) := H
 have A2 := Aside0.mk A20
 clear A20
 by_cases c3 : t117.size + 1 ≤ 9223372036854775807
 ·rw [if_pos c3] at H
  have c3b0 := eq_true c3
  have c3b1 : decide (t117.size + 1 ≤ 9223372036854775807) = true := decide_eq_true c3
  try have c3b2 : (9223372036854775807 < t117.size + 1) = False := eq_false (Nat.not_lt.2 c3)
  replace H := Option.bind_eq_some_iff.mp H
  obtain ⟨⟨t119, t120⟩, A40, H⟩ := H
  replace H : (if t117.size + 1 + t119.size ≤ 9223372036854775807 then (if t117.size + 1 + t119.size + 1 ≤ 9223372036854775807 then ((spec_l6Rd_pick.f k s0_0 t120 24).bind fun bt121 => (if bt121.1 = 0 then ((some (([(⟨#[]⟩ : ByteArray), (⟨#[48]⟩ : ByteArray), (⟨#[40, 41]⟩ : ByteArray), (⟨#[49, 40]⟩ : ByteArray), (⟨#[40, 48, 41, 41]⟩ : ByteArray), (⟨#[97, 40, 49, 41]⟩ : ByteArray), (⟨#[40, 49, 41, 48]⟩ : ByteArray), (⟨#[48, 49, 40, 48, 50, 41]⟩ : ByteArray), (⟨#[48, 40, 40, 49, 41]⟩ : ByteArray)] : List ByteArray) : List ByteArray)).bind fun y123 => ((spec_l6Rd_pick.f k s0_0 bt121.2 9).bind fun bt126 => (if 0 ≤ bt126.1 then (if bt126.1 < (y123.length : Int) then (some (rdOf ByteArray.empty y123 bt126.1, bt126.2)) else (none)) else (none)))) else (if bt121.1 = 1 then ((spec_l91Signs.f k s0_0 bt121.2 0 6).bind fun bt129 => (if bt129.1.size + 3 ≤ 9223372036854775807 then (some (bt129.1 ++ (⟨#[40, 48, 41]⟩ : ByteArray), bt129.2)) else (none))) else (if bt121.1 = 2 then (if 1 ≤ ((((t117 ++ (⟨#[40]⟩ : ByteArray)) ++ t119) ++ (⟨#[41]⟩ : ByteArray)).size : Int) then (if 1 + ((((t117 ++ (⟨#[40]⟩ : ByteArray)) ++ t119) ++ (⟨#[41]⟩ : ByteArray)).extract 1 (((t117 ++ (⟨#[40]⟩ : ByteArray)) ++ t119) ++ (⟨#[41]⟩ : ByteArray)).size).size ≤ 9223372036854775807 then (some ((⟨#[40]⟩ : ByteArray) ++ ((((t117 ++ (⟨#[40]⟩ : ByteArray)) ++ t119) ++ (⟨#[41]⟩ : ByteArray)).extract 1 (((t117 ++ (⟨#[40]⟩ : ByteArray)) ++ t119) ++ (⟨#[41]⟩ : ByteArray)).size), bt121.2)) else (none)) else (none)) else (some (((t117 ++ (⟨#[40]⟩ : ByteArray)) ++ t119) ++ (⟨#[41]⟩ : ByteArray), bt121.2)))))) else (none)) else (none)) = some (r1, r2) := H
  have A4 := Aside0.mk A40
  clear A40
  by_cases c5 : t117.size + 1 + t119.size ≤ 9223372036854775807
  ·rw [if_pos c5] at H
   have c5b0 := eq_true c5
   have c5b1 : decide (t117.size + 1 + t119.size ≤ 9223372036854775807) = true := decide_eq_true c5
   try have c5b2 : (9223372036854775807 < t117.size + 1 + t119.size) = False := eq_false (Nat.not_lt.2 c5)
   by_cases c6 : t117.size + 1 + t119.size + 1 ≤ 9223372036854775807
   ·rw [if_pos c6] at H
    have c6b0 := eq_true c6
    have c6b1 : decide (t117.size + 1 + t119.size + 1 ≤ 9223372036854775807) = true := decide_eq_true c6
    try have c6b2 : (9223372036854775807 < t117.size + 1 + t119.size + 1) = False := eq_false (Nat.not_lt.2 c6)
    replace H := Option.bind_eq_some_iff.mp H
    obtain ⟨⟨t121, t122⟩, A70, H⟩ := H
    replace H : (if t121 = 0 then ((some (([(⟨#[]⟩ : ByteArray), (⟨#[48]⟩ : ByteArray), (⟨#[40, 41]⟩ : ByteArray), (⟨#[49, 40]⟩ : ByteArray), (⟨#[40, 48, 41, 41]⟩ : ByteArray), (⟨#[97, 40, 49, 41]⟩ : ByteArray), (⟨#[40, 49, 41, 48]⟩ : ByteArray), (⟨#[48, 49, 40, 48, 50, 41]⟩ : ByteArray), (⟨#[48, 40, 40, 49, 41]⟩ : ByteArray)] : List ByteArray) : List ByteArray)).bind fun y123 => ((spec_l6Rd_pick.f k s0_0 t122 9).bind fun bt126 => (if 0 ≤ bt126.1 then (if bt126.1 < (y123.length : Int) then (some (rdOf ByteArray.empty y123 bt126.1, bt126.2)) else (none)) else (none)))) else (if t121 = 1 then ((spec_l91Signs.f k s0_0 t122 0 6).bind fun bt129 => (if bt129.1.size + 3 ≤ 9223372036854775807 then (some (bt129.1 ++ (⟨#[40, 48, 41]⟩ : ByteArray), bt129.2)) else (none))) else (if t121 = 2 then (if 1 ≤ ((((t117 ++ (⟨#[40]⟩ : ByteArray)) ++ t119) ++ (⟨#[41]⟩ : ByteArray)).size : Int) then (if 1 + ((((t117 ++ (⟨#[40]⟩ : ByteArray)) ++ t119) ++ (⟨#[41]⟩ : ByteArray)).extract 1 (((t117 ++ (⟨#[40]⟩ : ByteArray)) ++ t119) ++ (⟨#[41]⟩ : ByteArray)).size).size ≤ 9223372036854775807 then (some ((⟨#[40]⟩ : ByteArray) ++ ((((t117 ++ (⟨#[40]⟩ : ByteArray)) ++ t119) ++ (⟨#[41]⟩ : ByteArray)).extract 1 (((t117 ++ (⟨#[40]⟩ : ByteArray)) ++ t119) ++ (⟨#[41]⟩ : ByteArray)).size), t122)) else (none)) else (none)) else (some (((t117 ++ (⟨#[40]⟩ : ByteArray)) ++ t119) ++ (⟨#[41]⟩ : ByteArray), t122))))) = some (r1, r2) := H
    have A7 := Aside0.mk A70
    clear A70
    by_cases c8 : t121 = 0
    ·rw [if_pos c8] at H
     have c8b0 : (t121 == 0) = true := beq_iff_eq.mpr c8
     have c8b1 : (t121 != 0) = false := bne_eq_false_iff_eq.mpr c8
     clear c8
     obtain ⟨y123, hy123⟩ : ∃ y_ : List ByteArray, y_ = (([(⟨#[]⟩ : ByteArray), (⟨#[48]⟩ : ByteArray), (⟨#[40, 41]⟩ : ByteArray), (⟨#[49, 40]⟩ : ByteArray), (⟨#[40, 48, 41, 41]⟩ : ByteArray), (⟨#[97, 40, 49, 41]⟩ : ByteArray), (⟨#[40, 49, 41, 48]⟩ : ByteArray), (⟨#[48, 49, 40, 48, 50, 41]⟩ : ByteArray), (⟨#[48, 40, 40, 49, 41]⟩ : ByteArray)] : List ByteArray)) := ⟨_, rfl⟩
     replace H : ((spec_l6Rd_pick.f k s0_0 t122 9).bind fun bt126 => (if 0 ≤ bt126.1 then (if bt126.1 < (y123.length : Int) then (some (rdOf ByteArray.empty y123 bt126.1, bt126.2)) else (none)) else (none))) = some (r1, r2) := by first | (have H2_ := (Option.bind_some _ _).symm.trans H; rw [hy123]; with_reducible exact H2_)
     have Ny123 := Aside0.mk hy123
     clear hy123
     replace H := Option.bind_eq_some_iff.mp H
     obtain ⟨⟨t126, t127⟩, A90, H⟩ := H
     replace H : (if 0 ≤ t126 then (if t126 < (y123.length : Int) then (some (rdOf ByteArray.empty y123 t126, t127)) else (none)) else (none)) = some (r1, r2) := H
     have A9 := Aside0.mk A90
     clear A90
     by_cases c10 : 0 ≤ t126
     ·rw [if_pos c10] at H
      have c10b0 : decide (0 ≤ t126) = true := decide_eq_true c10
      clear c10
      by_cases c11 : t126 < (y123.length : Int)
      ·rw [if_pos c11] at H
       have c11b0 : decide (t126 < (y123.length : Int)) = true := decide_eq_true c11
       clear c11
       simp only [Option.some.injEq, Prod.mk.injEq] at H
       obtain ⟨rfl, rfl⟩ := H
       go_enter Try.func52, Try.ntmps52
       go_wp2_with (first | ((with_reducible refine gate_callee (f := 101) rfl ?_); refine goesL_ (some 5) rfl rfl Try.func101 (by kernel_rfl) rfl #[.pointer (some ⟨g, 0, none⟩), .int .i64 0, .int .i64 6] rfl (by (try simp only [List.map_toArray, List.map_cons, List.map_nil]); rfl) ?_; (with_reducible refine (spec_l91Signs.calls k g s0_0 s0_1 0 6 t117 t118 w0 _ ?side1 ?side2 A2.out).mono ?_); (case side1 => repeat ((with_reducible exact HI0.out))); (case side2 => repeat ((with_reducible exact HB.out))); rintro e w12 ⟨rfl, hi, hb, hk⟩; refine ⟨_, rfl, ?_⟩; replace HK := Aside0.mk (KeepBut.trans HK.out hk (.inl rfl)); replace HB := Aside0.mk hb; replace HI0 := Aside0.mk hi; (try clear hb); (try clear hk); (try clear hi)) | ((with_reducible refine gate_callee (f := 101) rfl ?_); refine goesL_ (some 8) rfl rfl Try.func101 (by kernel_rfl) rfl #[.pointer (some ⟨g, 0, none⟩), .int .i64 1, .int .i64 5] rfl (by (try simp only [List.map_toArray, List.map_cons, List.map_nil]); rfl) ?_; (with_reducible refine (spec_l91Signs.calls k g s0_0 t118 1 5 t119 t120 w0 _ ?side1 ?side2 A4.out).mono ?_); (case side1 => repeat ((with_reducible exact HI0.out))); (case side2 => repeat ((with_reducible exact HB.out))); rintro e w13 ⟨rfl, hi, hb, hk⟩; refine ⟨_, rfl, ?_⟩; replace HK := Aside0.mk (KeepBut.trans HK.out hk (.inl rfl)); replace HB := Aside0.mk hb; replace HI0 := Aside0.mk hi; (try clear hb); (try clear hk); (try clear hi)) | ((with_reducible refine gate_callee (f := 53) rfl ?_); refine goesL_ (some 12) rfl rfl Try.func53 (by kernel_rfl) rfl #[.pointer (some ⟨g, 0, none⟩), .int .i64 24] rfl (by (try simp only [List.map_toArray, List.map_cons, List.map_nil]); rfl) ?_; (with_reducible refine (spec_l6Rd_pick.calls k g s0_0 t120 24 t121 t122 w0 _ ?side1 ?side2 A7.out).mono ?_); (case side1 => repeat ((with_reducible exact HI0.out))); (case side2 => repeat ((with_reducible exact HB.out))); rintro e w14 ⟨rfl, hi, hb, hk⟩; refine ⟨_, rfl, ?_⟩; replace HK := Aside0.mk (KeepBut.trans HK.out hk (.inl rfl)); replace HB := Aside0.mk hb; replace HI0 := Aside0.mk hi; (try clear hb); (try clear hk); (try clear hi)) | ((with_reducible refine gate_dst (N := 15) rfl ?_); refine Kd.R_lit Kd.string _ 9 ?hg (N := 15) ?hd (xs := ([(⟨#[]⟩ : ByteArray), (⟨#[48]⟩ : ByteArray), (⟨#[40, 41]⟩ : ByteArray), (⟨#[49, 40]⟩ : ByteArray), (⟨#[40, 48, 41, 41]⟩ : ByteArray), (⟨#[97, 40, 49, 41]⟩ : ByteArray), (⟨#[40, 49, 41, 48]⟩ : ByteArray), (⟨#[48, 49, 40, 48, 50, 41]⟩ : ByteArray), (⟨#[48, 40, 40, 49, 41]⟩ : ByteArray)] : List ByteArray)) (inner := [.string (⟨#[]⟩ : ByteArray), .string (⟨#[48]⟩ : ByteArray), .string (⟨#[40, 41]⟩ : ByteArray), .string (⟨#[49, 40]⟩ : ByteArray), .string (⟨#[40, 48, 41, 41]⟩ : ByteArray), .string (⟨#[97, 40, 49, 41]⟩ : ByteArray), .string (⟨#[40, 49, 41, 48]⟩ : ByteArray), .string (⟨#[48, 49, 40, 48, 50, 41]⟩ : ByteArray), .string (⟨#[48, 40, 40, 49, 41]⟩ : ByteArray)]) (ok := fun _ => True) (okp := fun _ => True) ?hr ?hp (fun _ hk => hk) trivial (Below.refl _ _) (Nat.le_refl _) (by simp) ?_; (case hd => rfl); (case hg => rfl); (case hr => first | (go_simp; done)); (case hp => exact (Reps.one (show Kd.M Kd.string _ _ _ (⟨#[]⟩ : ByteArray) [.string (⟨#[]⟩ : ByteArray)] from rfl) (Reps.one (show Kd.M Kd.string _ _ _ (⟨#[48]⟩ : ByteArray) [.string (⟨#[48]⟩ : ByteArray)] from rfl) (Reps.one (show Kd.M Kd.string _ _ _ (⟨#[40, 41]⟩ : ByteArray) [.string (⟨#[40, 41]⟩ : ByteArray)] from rfl) (Reps.one (show Kd.M Kd.string _ _ _ (⟨#[49, 40]⟩ : ByteArray) [.string (⟨#[49, 40]⟩ : ByteArray)] from rfl) (Reps.one (show Kd.M Kd.string _ _ _ (⟨#[40, 48, 41, 41]⟩ : ByteArray) [.string (⟨#[40, 48, 41, 41]⟩ : ByteArray)] from rfl) (Reps.one (show Kd.M Kd.string _ _ _ (⟨#[97, 40, 49, 41]⟩ : ByteArray) [.string (⟨#[97, 40, 49, 41]⟩ : ByteArray)] from rfl) (Reps.one (show Kd.M Kd.string _ _ _ (⟨#[40, 49, 41, 48]⟩ : ByteArray) [.string (⟨#[40, 49, 41, 48]⟩ : ByteArray)] from rfl) (Reps.one (show Kd.M Kd.string _ _ _ (⟨#[48, 49, 40, 48, 50, 41]⟩ : ByteArray) [.string (⟨#[48, 49, 40, 48, 50, 41]⟩ : ByteArray)] from rfl) (Reps.one (show Kd.M Kd.string _ _ _ (⟨#[48, 40, 40, 49, 41]⟩ : ByteArray) [.string (⟨#[48, 40, 40, 49, 41]⟩ : ByteArray)] from rfl) (Reps.none _ _))))))))))); intro v124 w15 ho16 hb hg_ hnew_; clear hg_ hnew_; (rw [← Ny123.out] at ho16); have HO125 := Aside0.mk (Kd.R_lower ho16 (keep_size (w := w) (g := g) (row := none) HK.out)); replace HI0 := Aside0.mk (IsS102.below HI0.out hb); replace HK := Aside0.mk (KeepBut.trans HK.out (KeepBut.of_below hb g none) (.inl rfl)); replace HB := Aside0.mk (below_step HB.out hb); clear hb ho16) | ((with_reducible refine gate_callee (f := 53) rfl ?_); refine goesL_ (some 17) rfl rfl Try.func53 (by kernel_rfl) rfl #[.pointer (some ⟨g, 0, none⟩), .int .i64 9] rfl (by (try simp only [List.map_toArray, List.map_cons, List.map_nil]); rfl) ?_; (with_reducible refine (spec_l6Rd_pick.calls k g s0_0 t122 9 t126 t127 w0 _ ?side1 ?side2 A9.out).mono ?_); (case side1 => repeat ((with_reducible exact HI0.out))); (case side2 => repeat ((with_reducible exact HB.out))); rintro e w17 ⟨rfl, hi, hb, hk⟩; refine ⟨_, rfl, ?_⟩; replace HO125 := Aside0.mk (Kd.R_mono (Kd.R_keep (IsS102.apart (show IsS102 w0 _ g s0_0 t122 from by repeat ((with_reducible exact HI0.out))) HO125.out (by decide)) hk (fun _ h => h.2)) (fun _ h => h.1)); replace HK := Aside0.mk (KeepBut.trans HK.out hk (.inl rfl)); replace HB := Aside0.mk hb; replace HI0 := Aside0.mk hi; (try clear hb); (try clear hk); (try clear hi); obtain ⟨Ao18, co18, eo18⟩ := Kd.R_slice HO125.out; subst eo18; have p128 : 0 ≤ (t126 : Int) := of_decide_eq_true (by (with_reducible assumption)); have q128 : t126 < (y123.length : Int) := of_decide_eq_true (by (with_reducible assumption)); obtain ⟨ad128, e128, hx128_0⟩ := Kd.at_string (Kd.R_reads' HO125.out).2.2 t126 p128 q128; cases e128; replace p128 := eq_true p128; replace q128 := eq_true q128))
       go_ret
       exact ⟨by first | rfl | (simp [*, errW_none, errW_some] <;> rfl), HI0.out, HB.out, HK.out⟩
      ·rw [if_neg c11] at H
       exact absurd H (by simp)
     ·rw [if_neg c10] at H
      exact absurd H (by simp)
    ·rw [if_neg c8] at H
     have c8b0 : (t121 == 0) = false := beq_eq_false_iff_ne.mpr c8
     have c8b1 : (t121 != 0) = true := bne_iff_ne.mpr c8
     by_cases c19 : t121 = 1
     ·rw [if_pos c19] at H
      have c19b0 : (t121 == 1) = true := beq_iff_eq.mpr c19
      have c19b1 : (t121 != 1) = false := bne_eq_false_iff_eq.mpr c19
      clear c19
      replace H := Option.bind_eq_some_iff.mp H
      obtain ⟨⟨t129, t130⟩, A200, H⟩ := H
      replace H : (if t129.size + 3 ≤ 9223372036854775807 then (some (t129 ++ (⟨#[40, 48, 41]⟩ : ByteArray), t130)) else (none)) = some (r1, r2) := H
      have A20 := Aside0.mk A200
      clear A200
      by_cases c21 : t129.size + 3 ≤ 9223372036854775807
      ·rw [if_pos c21] at H
       have c21b0 := eq_true c21
       have c21b1 : decide (t129.size + 3 ≤ 9223372036854775807) = true := decide_eq_true c21
       try have c21b2 : (9223372036854775807 < t129.size + 3) = False := eq_false (Nat.not_lt.2 c21)
       simp only [Option.some.injEq, Prod.mk.injEq] at H
       obtain ⟨rfl, rfl⟩ := H
       go_enter Try.func52, Try.ntmps52
       go_wp2_with (first | ((with_reducible refine gate_callee (f := 101) rfl ?_); refine goesL_ (some 5) rfl rfl Try.func101 (by kernel_rfl) rfl #[.pointer (some ⟨g, 0, none⟩), .int .i64 0, .int .i64 6] rfl (by (try simp only [List.map_toArray, List.map_cons, List.map_nil]); rfl) ?_; (with_reducible refine (spec_l91Signs.calls k g s0_0 s0_1 0 6 t117 t118 w0 _ ?side1 ?side2 A2.out).mono ?_); (case side1 => repeat ((with_reducible exact HI0.out))); (case side2 => repeat ((with_reducible exact HB.out))); rintro e w22 ⟨rfl, hi, hb, hk⟩; refine ⟨_, rfl, ?_⟩; replace HK := Aside0.mk (KeepBut.trans HK.out hk (.inl rfl)); replace HB := Aside0.mk hb; replace HI0 := Aside0.mk hi; (try clear hb); (try clear hk); (try clear hi)) | ((with_reducible refine gate_callee (f := 101) rfl ?_); refine goesL_ (some 8) rfl rfl Try.func101 (by kernel_rfl) rfl #[.pointer (some ⟨g, 0, none⟩), .int .i64 1, .int .i64 5] rfl (by (try simp only [List.map_toArray, List.map_cons, List.map_nil]); rfl) ?_; (with_reducible refine (spec_l91Signs.calls k g s0_0 t118 1 5 t119 t120 w0 _ ?side1 ?side2 A4.out).mono ?_); (case side1 => repeat ((with_reducible exact HI0.out))); (case side2 => repeat ((with_reducible exact HB.out))); rintro e w23 ⟨rfl, hi, hb, hk⟩; refine ⟨_, rfl, ?_⟩; replace HK := Aside0.mk (KeepBut.trans HK.out hk (.inl rfl)); replace HB := Aside0.mk hb; replace HI0 := Aside0.mk hi; (try clear hb); (try clear hk); (try clear hi)) | ((with_reducible refine gate_callee (f := 53) rfl ?_); refine goesL_ (some 12) rfl rfl Try.func53 (by kernel_rfl) rfl #[.pointer (some ⟨g, 0, none⟩), .int .i64 24] rfl (by (try simp only [List.map_toArray, List.map_cons, List.map_nil]); rfl) ?_; (with_reducible refine (spec_l6Rd_pick.calls k g s0_0 t120 24 t121 t122 w0 _ ?side1 ?side2 A7.out).mono ?_); (case side1 => repeat ((with_reducible exact HI0.out))); (case side2 => repeat ((with_reducible exact HB.out))); rintro e w24 ⟨rfl, hi, hb, hk⟩; refine ⟨_, rfl, ?_⟩; replace HK := Aside0.mk (KeepBut.trans HK.out hk (.inl rfl)); replace HB := Aside0.mk hb; replace HI0 := Aside0.mk hi; (try clear hb); (try clear hk); (try clear hi)) | ((with_reducible refine gate_callee (f := 101) rfl ?_); refine goesL_ (some 23) rfl rfl Try.func101 (by kernel_rfl) rfl #[.pointer (some ⟨g, 0, none⟩), .int .i64 0, .int .i64 6] rfl (by (try simp only [List.map_toArray, List.map_cons, List.map_nil]); rfl) ?_; (with_reducible refine (spec_l91Signs.calls k g s0_0 t122 0 6 t129 t130 w0 _ ?side1 ?side2 A20.out).mono ?_); (case side1 => repeat ((with_reducible exact HI0.out))); (case side2 => repeat ((with_reducible exact HB.out))); rintro e w25 ⟨rfl, hi, hb, hk⟩; refine ⟨_, rfl, ?_⟩; replace HK := Aside0.mk (KeepBut.trans HK.out hk (.inl rfl)); replace HB := Aside0.mk hb; replace HI0 := Aside0.mk hi; (try clear hb); (try clear hk); (try clear hi)))
       go_ret
       exact ⟨by first | rfl | (simp [*, errW_none, errW_some] <;> rfl), HI0.out, HB.out, HK.out⟩
      ·rw [if_neg c21] at H
       exact absurd H (by simp)
     ·rw [if_neg c19] at H
      have c19b0 : (t121 == 1) = false := beq_eq_false_iff_ne.mpr c19
      have c19b1 : (t121 != 1) = true := bne_iff_ne.mpr c19
      by_cases c26 : t121 = 2
      ·rw [if_pos c26] at H
       have c26b0 : (t121 == 2) = true := beq_iff_eq.mpr c26
       have c26b1 : (t121 != 2) = false := bne_eq_false_iff_eq.mpr c26
       clear c26
       by_cases c27 : 1 ≤ ((((t117 ++ (⟨#[40]⟩ : ByteArray)) ++ t119) ++ (⟨#[41]⟩ : ByteArray)).size : Int)
       ·rw [if_pos c27] at H
        have c27b0 := eq_true c27
        have c27b1 : decide (1 ≤ ((((t117 ++ (⟨#[40]⟩ : ByteArray)) ++ t119) ++ (⟨#[41]⟩ : ByteArray)).size : Int)) = true := decide_eq_true c27
        by_cases c28 : 1 + ((((t117 ++ (⟨#[40]⟩ : ByteArray)) ++ t119) ++ (⟨#[41]⟩ : ByteArray)).extract 1 (((t117 ++ (⟨#[40]⟩ : ByteArray)) ++ t119) ++ (⟨#[41]⟩ : ByteArray)).size).size ≤ 9223372036854775807
        ·rw [if_pos c28] at H
         have c28b0 := eq_true c28
         have c28b1 : decide (1 + ((((t117 ++ (⟨#[40]⟩ : ByteArray)) ++ t119) ++ (⟨#[41]⟩ : ByteArray)).extract 1 (((t117 ++ (⟨#[40]⟩ : ByteArray)) ++ t119) ++ (⟨#[41]⟩ : ByteArray)).size).size ≤ 9223372036854775807) = true := decide_eq_true c28
         try have c28b2 : (9223372036854775807 < 1 + ((((t117 ++ (⟨#[40]⟩ : ByteArray)) ++ t119) ++ (⟨#[41]⟩ : ByteArray)).extract 1 (((t117 ++ (⟨#[40]⟩ : ByteArray)) ++ t119) ++ (⟨#[41]⟩ : ByteArray)).size).size) = False := eq_false (Nat.not_lt.2 c28)
         simp only [Option.some.injEq, Prod.mk.injEq] at H
         obtain ⟨rfl, rfl⟩ := H
         go_enter Try.func52, Try.ntmps52
         go_wp2_with (first | ((with_reducible refine gate_callee (f := 101) rfl ?_); refine goesL_ (some 5) rfl rfl Try.func101 (by kernel_rfl) rfl #[.pointer (some ⟨g, 0, none⟩), .int .i64 0, .int .i64 6] rfl (by (try simp only [List.map_toArray, List.map_cons, List.map_nil]); rfl) ?_; (with_reducible refine (spec_l91Signs.calls k g s0_0 s0_1 0 6 t117 t118 w0 _ ?side1 ?side2 A2.out).mono ?_); (case side1 => repeat ((with_reducible exact HI0.out))); (case side2 => repeat ((with_reducible exact HB.out))); rintro e w29 ⟨rfl, hi, hb, hk⟩; refine ⟨_, rfl, ?_⟩; replace HK := Aside0.mk (KeepBut.trans HK.out hk (.inl rfl)); replace HB := Aside0.mk hb; replace HI0 := Aside0.mk hi; (try clear hb); (try clear hk); (try clear hi)) | ((with_reducible refine gate_callee (f := 101) rfl ?_); refine goesL_ (some 8) rfl rfl Try.func101 (by kernel_rfl) rfl #[.pointer (some ⟨g, 0, none⟩), .int .i64 1, .int .i64 5] rfl (by (try simp only [List.map_toArray, List.map_cons, List.map_nil]); rfl) ?_; (with_reducible refine (spec_l91Signs.calls k g s0_0 t118 1 5 t119 t120 w0 _ ?side1 ?side2 A4.out).mono ?_); (case side1 => repeat ((with_reducible exact HI0.out))); (case side2 => repeat ((with_reducible exact HB.out))); rintro e w30 ⟨rfl, hi, hb, hk⟩; refine ⟨_, rfl, ?_⟩; replace HK := Aside0.mk (KeepBut.trans HK.out hk (.inl rfl)); replace HB := Aside0.mk hb; replace HI0 := Aside0.mk hi; (try clear hb); (try clear hk); (try clear hi)) | ((with_reducible refine gate_callee (f := 53) rfl ?_); refine goesL_ (some 12) rfl rfl Try.func53 (by kernel_rfl) rfl #[.pointer (some ⟨g, 0, none⟩), .int .i64 24] rfl (by (try simp only [List.map_toArray, List.map_cons, List.map_nil]); rfl) ?_; (with_reducible refine (spec_l6Rd_pick.calls k g s0_0 t120 24 t121 t122 w0 _ ?side1 ?side2 A7.out).mono ?_); (case side1 => repeat ((with_reducible exact HI0.out))); (case side2 => repeat ((with_reducible exact HB.out))); rintro e w31 ⟨rfl, hi, hb, hk⟩; refine ⟨_, rfl, ?_⟩; replace HK := Aside0.mk (KeepBut.trans HK.out hk (.inl rfl)); replace HB := Aside0.mk hb; replace HI0 := Aside0.mk hi; (try clear hb); (try clear hk); (try clear hi)))
         go_ret
         exact ⟨by first | (simp [errW_none, errW_some] <;> rfl) | (simp [*, errW_none, errW_some] <;> rfl), HI0.out, HB.out, HK.out⟩
        ·rw [if_neg c28] at H
         exact absurd H (by simp)
       ·rw [if_neg c27] at H
        exact absurd H (by simp)
      ·rw [if_neg c26] at H
       have c26b0 : (t121 == 2) = false := beq_eq_false_iff_ne.mpr c26
       have c26b1 : (t121 != 2) = true := bne_iff_ne.mpr c26
       simp only [Option.some.injEq, Prod.mk.injEq] at H
       obtain ⟨rfl, rfl⟩ := H
       go_enter Try.func52, Try.ntmps52
       go_wp2_with (first | ((with_reducible refine gate_callee (f := 101) rfl ?_); refine goesL_ (some 5) rfl rfl Try.func101 (by kernel_rfl) rfl #[.pointer (some ⟨g, 0, none⟩), .int .i64 0, .int .i64 6] rfl (by (try simp only [List.map_toArray, List.map_cons, List.map_nil]); rfl) ?_; (with_reducible refine (spec_l91Signs.calls k g s0_0 s0_1 0 6 t117 t118 w0 _ ?side1 ?side2 A2.out).mono ?_); (case side1 => repeat ((with_reducible exact HI0.out))); (case side2 => repeat ((with_reducible exact HB.out))); rintro e w32 ⟨rfl, hi, hb, hk⟩; refine ⟨_, rfl, ?_⟩; replace HK := Aside0.mk (KeepBut.trans HK.out hk (.inl rfl)); replace HB := Aside0.mk hb; replace HI0 := Aside0.mk hi; (try clear hb); (try clear hk); (try clear hi)) | ((with_reducible refine gate_callee (f := 101) rfl ?_); refine goesL_ (some 8) rfl rfl Try.func101 (by kernel_rfl) rfl #[.pointer (some ⟨g, 0, none⟩), .int .i64 1, .int .i64 5] rfl (by (try simp only [List.map_toArray, List.map_cons, List.map_nil]); rfl) ?_; (with_reducible refine (spec_l91Signs.calls k g s0_0 t118 1 5 t119 t120 w0 _ ?side1 ?side2 A4.out).mono ?_); (case side1 => repeat ((with_reducible exact HI0.out))); (case side2 => repeat ((with_reducible exact HB.out))); rintro e w33 ⟨rfl, hi, hb, hk⟩; refine ⟨_, rfl, ?_⟩; replace HK := Aside0.mk (KeepBut.trans HK.out hk (.inl rfl)); replace HB := Aside0.mk hb; replace HI0 := Aside0.mk hi; (try clear hb); (try clear hk); (try clear hi)) | ((with_reducible refine gate_callee (f := 53) rfl ?_); refine goesL_ (some 12) rfl rfl Try.func53 (by kernel_rfl) rfl #[.pointer (some ⟨g, 0, none⟩), .int .i64 24] rfl (by (try simp only [List.map_toArray, List.map_cons, List.map_nil]); rfl) ?_; (with_reducible refine (spec_l6Rd_pick.calls k g s0_0 t120 24 t121 t122 w0 _ ?side1 ?side2 A7.out).mono ?_); (case side1 => repeat ((with_reducible exact HI0.out))); (case side2 => repeat ((with_reducible exact HB.out))); rintro e w34 ⟨rfl, hi, hb, hk⟩; refine ⟨_, rfl, ?_⟩; replace HK := Aside0.mk (KeepBut.trans HK.out hk (.inl rfl)); replace HB := Aside0.mk hb; replace HI0 := Aside0.mk hi; (try clear hb); (try clear hk); (try clear hi)))
       go_ret
       exact ⟨by first | rfl | (simp [*, errW_none, errW_some] <;> rfl), HI0.out, HB.out, HK.out⟩
   ·rw [if_neg c6] at H
    exact absurd H (by simp)
  ·rw [if_neg c5] at H
   exact absurd H (by simp)
 ·rw [if_neg c3] at H
  exact absurd H (by simp)


def spec_DrawSolveIs.f (k : Nat) (l0 : List Int) : Option (ByteArray × ByteArray × ByteArray) := (spec_l6Open.f l0).bind fun bt613 => ((spec_l91Set.f k bt613.1 bt613.2).bind fun bt616 => ((spec_l91Set.f k bt613.1 bt616.2).bind fun bt618 => ((spec_l91Set.f k bt613.1 bt618.2).bind fun bt620 => (some (bt616.1, bt618.1, bt620.1)))))
theorem spec_DrawSolveIs.mono : ∀ a0 k, LeO (spec_DrawSolveIs.f k a0) (spec_DrawSolveIs.f (k + 1) a0) := by
 intro a0 k
 unfold spec_DrawSolveIs.f
 repeat' first | (with_reducible exact spec_l91Set.mono _ _ _) | (with_reducible exact LeO.refl _) | (with_reducible refine LeO.bind ?_ (fun _ => ?_))
set_option maxHeartbeats 8000000 in
set_option maxRecDepth 100000 in
theorem spec_DrawSolveIs.calls (k : Nat) (A0 : Option Addr) (c0 : Nat) (l0 : List Int) (r1 : ByteArray) (r2 : ByteArray) (r3 : ByteArray) (w : World) (hr0 : Kd.C (Kd.int .u8) w A0 l0.length l0) (hc0 : l0.length ≤ c0) (h : spec_DrawSolveIs.f k l0 = some (r1, r2, r3)) :
  Calls Try.prog 19 #[.slice A0 l0.length c0] w fun e w' => e = .returned (.tuple #[.string r1, .string r2, .string r3]) ∧ Below w.heap.size w w' := by
 have HR0 := Aside0.mk hr0
 have HC0 := Aside0.mk hc0
 clear hr0 hc0
 have HB := Aside0.mk (Below.refl w.heap.size w)
 have H : ((spec_l6Open.f l0).bind fun bt613 => ((spec_l91Set.f k bt613.1 bt613.2).bind fun bt616 => ((spec_l91Set.f k bt613.1 bt616.2).bind fun bt618 => ((spec_l91Set.f k bt613.1 bt618.2).bind fun bt620 => (some (bt616.1, bt618.1, bt620.1)))))) = some (r1, r2, r3) := h
 clear h
 replace H := Option.bind_eq_some_iff.mp H
 obtain ⟨⟨t613, t614⟩, A20, H⟩ := H
 replace H : ((spec_l91Set.f k t613 t614).bind fun bt616 => ((spec_l91Set.f k t613 bt616.2).bind fun bt618 => ((spec_l91Set.f k t613 bt618.2).bind fun bt620 => (some (bt616.1, bt618.1, bt620.1))))) = some (r1, r2, r3) := H
 have A2 := Aside0.mk A20
 clear A20
 replace H := Option.bind_eq_some_iff.mp H
 obtain ⟨⟨t616, t617⟩, A30, H⟩ := H
 replace H : ((spec_l91Set.f k t613 t617).bind fun bt618 => ((spec_l91Set.f k t613 bt618.2).bind fun bt620 => (some (t616, bt618.1, bt620.1)))) = some (r1, r2, r3) := H
 have A3 := Aside0.mk A30
 clear A30
 replace H := Option.bind_eq_some_iff.mp H
 obtain ⟨⟨t618, t619⟩, A40, H⟩ := H
 replace H : ((spec_l91Set.f k t613 t619).bind fun bt620 => (some (t616, t618, bt620.1))) = some (r1, r2, r3) := H
 have A4 := Aside0.mk A40
 clear A40
 replace H := Option.bind_eq_some_iff.mp H
 obtain ⟨⟨t620, t621⟩, A50, H⟩ := H
 replace H : (some (t616, t618, t620)) = some (r1, r2, r3) := H
 have A5 := Aside0.mk A50
 clear A50
 simp only [Option.some.injEq, Prod.mk.injEq] at H
 obtain ⟨rfl, rfl, rfl⟩ := H
 go_enter Try.func19, Try.ntmps19
 go_wp2_with (first | ((with_reducible refine gate_callee (f := 51) rfl ?_); refine goesL_ (some 7) rfl rfl Try.func51 (by kernel_rfl) rfl #[.slice A0 l0.length c0] rfl (by (try simp only [List.map_toArray, List.map_cons, List.map_nil]); rfl) ?_; (with_reducible refine (spec_l6Open.calls _ _ l0 t613 t614 w _ ?side1 ?side2 ?side3 A2.out).mono ?_); (case side1 => repeat ((with_reducible exact HB.out))); (case side2 => exact HR0.out); (case side3 => exact HC0.out); rintro e w6 ⟨g615, rfl, hi, hb, hb2⟩; refine ⟨_, rfl, ?_⟩; replace HB := Aside0.mk hb; have HI615 := Aside0.mk hi; (try clear hb); (try clear hb2); (try clear hi)) | ((with_reducible refine gate_callee (f := 52) rfl ?_); refine goesL_ (some 9) rfl rfl Try.func52 (by kernel_rfl) rfl #[.pointer (some ⟨g615, 0, none⟩)] rfl (by (try simp only [List.map_toArray, List.map_cons, List.map_nil]); rfl) ?_; (with_reducible refine (spec_l91Set.calls k g615 t613 t614 t616 t617 w _ ?side1 ?side2 A3.out).mono ?_); (case side1 => repeat ((with_reducible exact HI615.out))); (case side2 => repeat ((with_reducible exact HB.out))); rintro e w7 ⟨rfl, hi, hb, hk⟩; refine ⟨_, rfl, ?_⟩; replace HB := Aside0.mk hb; replace HI615 := Aside0.mk hi; (try clear hb); (try clear hk); (try clear hi)) | ((with_reducible refine gate_callee (f := 52) rfl ?_); refine goesL_ (some 11) rfl rfl Try.func52 (by kernel_rfl) rfl #[.pointer (some ⟨g615, 0, none⟩)] rfl (by (try simp only [List.map_toArray, List.map_cons, List.map_nil]); rfl) ?_; (with_reducible refine (spec_l91Set.calls k g615 t613 t617 t618 t619 w _ ?side1 ?side2 A4.out).mono ?_); (case side1 => repeat ((with_reducible exact HI615.out))); (case side2 => repeat ((with_reducible exact HB.out))); rintro e w8 ⟨rfl, hi, hb, hk⟩; refine ⟨_, rfl, ?_⟩; replace HB := Aside0.mk hb; replace HI615 := Aside0.mk hi; (try clear hb); (try clear hk); (try clear hi)) | ((with_reducible refine gate_callee (f := 52) rfl ?_); refine goesL_ (some 13) rfl rfl Try.func52 (by kernel_rfl) rfl #[.pointer (some ⟨g615, 0, none⟩)] rfl (by (try simp only [List.map_toArray, List.map_cons, List.map_nil]); rfl) ?_; (with_reducible refine (spec_l91Set.calls k g615 t613 t619 t620 t621 w _ ?side1 ?side2 A5.out).mono ?_); (case side1 => repeat ((with_reducible exact HI615.out))); (case side2 => repeat ((with_reducible exact HB.out))); rintro e w9 ⟨rfl, hi, hb, hk⟩; refine ⟨_, rfl, ?_⟩; replace HB := Aside0.mk hb; replace HI615 := Aside0.mk hi; (try clear hb); (try clear hk); (try clear hi)))
 go_ret3
 exact ⟨by first | rfl | (simp [*, errW_none, errW_some] <;> rfl), HB.out⟩


mutual
def impl_SolveIs.j0 : Nat → Bool → List Bool → List Bool → List Bool → List Bool → List Bool → List Bool → Option (Bool)
 | 0, _, _, _, _, _, _, _ => none
 | k + 1, x30, x640000, x640001, x641000, x641001, x649000, x649001 => if x30 = true then (some false) else (impl_SolveIs.l0 k 0 x640000 x640001 x641000 x641001 x649000 x649001)
def impl_SolveIs.l0 : Nat → Int → List Bool → List Bool → List Bool → List Bool → List Bool → List Bool → Option (Bool)
 | 0, _, _, _, _, _, _, _ => none
 | k + 1, x31, x640000, x640001, x641000, x641001, x649000, x649001 => if x31 < 400 then ((impl_set_has.f x649000 x649001 x31).bind fun t649 => ((impl_set_has.f x641000 x641001 x31).bind fun t650 => (if t650 = true then (if (t649 != true) = true then (some false) else (impl_SolveIs.l0 k (wrap64 (x31 + 1)) x640000 x640001 x641000 x641001 x649000 x649001)) else ((impl_sums.f k x640000 x640001 x649000 x649001 x31).bind fun t651 => (if (t649 != t651) = true then (some false) else (impl_SolveIs.l0 k (wrap64 (x31 + 1)) x640000 x640001 x641000 x641001 x649000 x649001)))))) else (some true)
end
def impl_SolveIs.f (k : Nat) (a0 : ByteArray) (a1 : ByteArray) (a2 : ByteArray) : Option (Bool) := (impl_two.f k a0 a1).bind fun bt626 => ((impl_small.f k a2).bind fun bt641 => (if bt626.2.2.2.2 = true then (impl_SolveIs.j0 k (!bt641.2.2) bt626.1 bt626.2.1 bt626.2.2.1 bt626.2.2.2.1 bt641.1 bt641.2.1) else (impl_SolveIs.j0 k true bt626.1 bt626.2.1 bt626.2.2.1 bt626.2.2.2.1 bt641.1 bt641.2.1)))
theorem impl_SolveIs.mono_l : ∀ k, (∀ y0 y1 y2 y3 y4 y5 y6, LeO (impl_SolveIs.j0 k y0 y1 y2 y3 y4 y5 y6) (impl_SolveIs.j0 (k + 1) y0 y1 y2 y3 y4 y5 y6)) ∧ (∀ y0 y1 y2 y3 y4 y5 y6, LeO (impl_SolveIs.l0 k y0 y1 y2 y3 y4 y5 y6) (impl_SolveIs.l0 (k + 1) y0 y1 y2 y3 y4 y5 y6))
 | 0 => ⟨fun _ _ _ _ _ _ _ r h => by simp [impl_SolveIs.j0] at h, fun _ _ _ _ _ _ _ r h => by simp [impl_SolveIs.l0] at h⟩
 | k + 1 => by
  obtain ⟨ih0, ih1⟩ := impl_SolveIs.mono_l k
  refine ⟨?_, ?_⟩
  ·intro y0 y1 y2 y3 y4 y5 y6
   unfold impl_SolveIs.j0
   repeat' first | (with_reducible exact ih1 _ _ _ _ _ _ _) | (with_reducible exact LeO.refl _) | (with_reducible refine LeO.ite ?_ ?_)
  ·intro y0 y1 y2 y3 y4 y5 y6
   unfold impl_SolveIs.l0
   repeat' first | (with_reducible exact ih1 _ _ _ _ _ _ _) | (with_reducible exact impl_sums.mono _ _ _ _ _ _) | (with_reducible exact LeO.refl _) | (with_reducible refine LeO.ite ?_ ?_) | (with_reducible refine LeO.bind ?_ (fun _ => ?_))
theorem impl_SolveIs.mono : ∀ a0 a1 a2 k, LeO (impl_SolveIs.f k a0 a1 a2) (impl_SolveIs.f (k + 1) a0 a1 a2) := by
 intro a0 a1 a2 k
 obtain ⟨ih0, ih1⟩ := impl_SolveIs.mono_l k
 unfold impl_SolveIs.f
 repeat' first | (with_reducible exact ih0 _ _ _ _ _ _ _) | (with_reducible exact impl_small.mono _ _) | (with_reducible exact impl_two.mono _ _ _) | (with_reducible refine LeO.ite ?_ ?_) | (with_reducible refine LeO.bind ?_ (fun _ => ?_))
def impl_SolveIs.T8 : Bool × List (List Nat × List Nat) := (true, [([], []), ([], []), ([0, 1], [0, 1]), ([], []), ([], []), ([3, 4, 2], [3, 4]), ([5, 5], [5]), ([6], [6]), ([6], [6]), ([6], [6]), ([7, 8, 9, 6, 6], [6, 7, 8, 9]), ([6, 10], [6, 10]), ([2, 11], [2, 11])])
def impl_SolveIs.B8 : List Nat := [0, 0, 3, 0, 0, 31, 63, 127, 127, 127, 1023, 2047, 4095]
theorem impl_SolveIs.tab8 : rtab .any (opsOf Try.f20 8) = impl_SolveIs.T8 := by kernel_rfl
theorem impl_SolveIs.bits8 : waitsOk impl_SolveIs.T8.2 impl_SolveIs.B8 = true := by kernel_rfl
set_option maxHeartbeats 8000000 in
set_option maxRecDepth 100000 in
theorem impl_SolveIs.calls (k : Nat) (a0 : ByteArray) (a1 : ByteArray) (a2 : ByteArray) (r : Bool) (w : World) (h : impl_SolveIs.f k a0 a1 a2 = some r) :
  Calls Try.prog 20 #[.string a0, .string a1, .string a2] w fun e w' => e = .returned (.bool r) ∧ Below w.heap.size w w' := by
 have hu60 := Try.underlying60
 have HB := Aside0.mk (Below.refl w.heap.size w)
 have H : ((impl_two.f k a0 a1).bind fun bt626 => ((impl_small.f k a2).bind fun bt641 => (if bt626.2.2.2.2 = true then (impl_SolveIs.j0 k (!bt641.2.2) bt626.1 bt626.2.1 bt626.2.2.1 bt626.2.2.2.1 bt641.1 bt641.2.1) else (impl_SolveIs.j0 k true bt626.1 bt626.2.1 bt626.2.2.1 bt626.2.2.2.1 bt641.1 bt641.2.1)))) = some r := h
 clear h
 replace H := Option.bind_eq_some_iff.mp H
 obtain ⟨⟨t626, t629, t632, t635, t638⟩, A40, H⟩ := H
 replace H : ((impl_small.f k a2).bind fun bt641 => (if t638 = true then (impl_SolveIs.j0 k (!bt641.2.2) t626 t629 t632 t635 bt641.1 bt641.2.1) else (impl_SolveIs.j0 k true t626 t629 t632 t635 bt641.1 bt641.2.1))) = some r := H
 have A4 := Aside0.mk A40
 clear A40
 replace H := Option.bind_eq_some_iff.mp H
 obtain ⟨⟨t641, t644, t647⟩, A50, H⟩ := H
 replace H : (if t638 = true then (impl_SolveIs.j0 k (!t647) t626 t629 t632 t635 t641 t644) else (impl_SolveIs.j0 k true t626 t629 t632 t635 t641 t644)) = some r := H
 have A5 := Aside0.mk A50
 clear A50
 have HC6 := Aside0.mk H
 clear H
 go_enter Try.func20, Try.ntmps20
 go_upto_region 3 with (first | ((with_reducible refine gate_callee (f := 54) rfl ?_); refine goesL_ (some 16) rfl rfl Try.func54 (by kernel_rfl) rfl #[.string a0, .string a1] rfl (by (try simp only [List.map_toArray, List.map_cons, List.map_nil]); rfl) ?_; (with_reducible refine (impl_two.calls k a0 a1 t626 t629 t632 t635 t638 _ A4.out).mono ?_); rintro e w7 ⟨v627, v630, v633, v636, rfl, ho0, ho1, ho2, ho3, hb⟩; refine ⟨_, rfl, ?_⟩; have HO628 := Aside0.mk (Kd.R_lower ho0 (below_size HB.out)); have HO631 := Aside0.mk (Kd.R_lower ho1 (below_size HB.out)); have HO634 := Aside0.mk (Kd.R_lower ho2 (below_size HB.out)); have HO637 := Aside0.mk (Kd.R_lower ho3 (below_size HB.out)); replace HB := Aside0.mk (below_step HB.out hb); (try clear hb); (try clear ho0); (try clear ho1); (try clear ho2); (try clear ho3)) | ((with_reducible refine gate_dst (N := 7) rfl ?_); refine box_event ?hg (N := 7) ?hd (cs := #[.slice none 0 0, .slice none 0 0]) (t := 60) ?hr ?_; (case hd => rfl); (case hg => rfl); (case hr => first | (go_simp; done)); intro gb639 hg w8 hbox hb; replace HO628 := Aside0.mk (Kd.R_below HO628.out hb); replace HO631 := Aside0.mk (Kd.R_below HO631.out hb); replace HO634 := Aside0.mk (Kd.R_below HO634.out hb); replace HO637 := Aside0.mk (Kd.R_below HO637.out hb); have BK639 := Aside0.mk hbox; have GW639 := Aside0.mk ((by rw [hg]; exact (below_size HB.out) : w.heap.size ≤ gb639)); have GE639 := Aside0.mk ((by rw [hg]; exact (below_size HB.out) : w.heap.size ≤ gb639)); replace HB := Aside0.mk (below_step HB.out hb); clear hb hbox hg) | ((with_reducible refine gate_dst (N := 8) rfl ?_); refine box_event ?hg (N := 8) ?hd (cs := #[.slice none 0 0, .slice none 0 0]) (t := 60) ?hr ?_; (case hd => rfl); (case hg => rfl); (case hr => first | (go_simp; done)); intro gb640 hg w9 hbox hb; replace HO628 := Aside0.mk (Kd.R_below HO628.out hb); replace HO631 := Aside0.mk (Kd.R_below HO631.out hb); replace HO634 := Aside0.mk (Kd.R_below HO634.out hb); replace HO637 := Aside0.mk (Kd.R_below HO637.out hb); have BK640 := Aside0.mk hbox; have GW640 := Aside0.mk ((by rw [hg]; exact (below_size HB.out) : w.heap.size ≤ gb640)); have GE640 := Aside0.mk ((by rw [hg]; exact (below_size HB.out) : w.heap.size ≤ gb640)); replace HB := Aside0.mk (below_step HB.out hb); have NB639_640 := Aside0.mk ((by rw [hg]; exact Nat.ne_of_lt (blk_lt (g := gb639) (o := .cells #[.slice none 0 0, .slice none 0 0] 60 (0, 0)) BK639.out) : gb639 ≠ gb640)); have NB640_639 := Aside0.mk ((by rw [hg]; exact Nat.ne_of_gt (blk_lt (g := gb639) (o := .cells #[.slice none 0 0, .slice none 0 0] 60 (0, 0)) BK639.out) : gb640 ≠ gb639)); replace BK639 := Aside0.mk (blk_below (g := gb639) (o := .cells #[.slice none 0 0, .slice none 0 0] 60 (0, 0)) BK639.out hb); clear hb hbox hg; obtain ⟨Ao10, co10, eo10⟩ := Kd.R_slice HO628.out; subst eo10; have hnb11 := NB639_640.out; have hnc11 := NB640_639.out; have hcz12_0 : w9.cell? ⟨gb639, 0, none⟩ = some (.slice none 0 0) := (blk_cell BK639.out 0).trans rfl; have hcz12_1 : w9.cell? ⟨gb639, 1, none⟩ = some (.slice none 0 0) := (blk_cell BK639.out 1).trans rfl; have hfz12_0 := blk_frozen BK639.out 0; have hfz12_1 := blk_frozen BK639.out 1; obtain ⟨Ao13, co13, eo13⟩ := Kd.R_slice HO631.out; subst eo13; obtain ⟨Ao14, co14, eo14⟩ := Kd.R_slice HO634.out; subst eo14; have hcz15_0 : w9.cell? ⟨gb640, 0, none⟩ = some (.slice none 0 0) := (blk_cell BK640.out 0).trans rfl; have hcz15_1 : w9.cell? ⟨gb640, 1, none⟩ = some (.slice none 0 0) := (blk_cell BK640.out 1).trans rfl; have hfz15_0 := blk_frozen BK640.out 0; have hfz15_1 := blk_frozen BK640.out 1; obtain ⟨Ao16, co16, eo16⟩ := Kd.R_slice HO637.out; subst eo16) | ((with_reducible refine gate_callee (f := 64) rfl ?_); refine goesL_ (some 22) rfl rfl Try.func64 (by kernel_rfl) rfl #[.string a2] rfl (by (try simp only [List.map_toArray, List.map_cons, List.map_nil]); rfl) ?_; (with_reducible refine (impl_small.calls k a2 t641 t644 t647 _ A5.out).mono ?_); rintro e w17 ⟨v642, v645, rfl, ho0, ho1, hb⟩; refine ⟨_, rfl, ?_⟩; have HO643 := Aside0.mk (Kd.R_lower (Kd.R_new' (Kd.R_new' (Kd.R_new' (Kd.R_new' ho0 (Kd.R_lt (by exact (Kd.R_mono (Kd.R_mono (Kd.R_far (p := ⟨gb640, 1, none⟩) (Kd.R_far (p := ⟨gb640, 0, none⟩) (Kd.R_far (p := ⟨gb639, 1, none⟩) (Kd.R_far (p := ⟨gb639, 0, none⟩) (Kd.R_types (Kd.R_types HO628.out BK639.out (by decide)) BK640.out (by decide)) (fun _ hk => hk.1.2) (.slice Ao10 t626.length co10)) (fun _ hk => hk.1.2) (.slice Ao13 t629.length co13)) (fun _ hk => hk.2) (.slice Ao14 t632.length co14)) (fun _ hk => hk.2) (.slice Ao16 t635.length co16)) (fun _ h_ => h_.1)) (fun _ h_ => h_.1))))) (Kd.R_lt (by exact (Kd.R_mono (Kd.R_mono (Kd.R_far (p := ⟨gb640, 1, none⟩) (Kd.R_far (p := ⟨gb640, 0, none⟩) (Kd.R_far (p := ⟨gb639, 1, none⟩) (Kd.R_far (p := ⟨gb639, 0, none⟩) (Kd.R_types (Kd.R_types HO631.out BK639.out (by decide)) BK640.out (by decide)) (fun _ hk => hk.1.2) (.slice Ao10 t626.length co10)) (fun _ hk => hk.1.2) (.slice Ao13 t629.length co13)) (fun _ hk => hk.2) (.slice Ao14 t632.length co14)) (fun _ hk => hk.2) (.slice Ao16 t635.length co16)) (fun _ h_ => h_.1)) (fun _ h_ => h_.1))))) (Kd.R_lt (by exact (Kd.R_mono (Kd.R_mono (Kd.R_far (p := ⟨gb640, 1, none⟩) (Kd.R_far (p := ⟨gb640, 0, none⟩) (Kd.R_far (p := ⟨gb639, 1, none⟩) (Kd.R_far (p := ⟨gb639, 0, none⟩) (Kd.R_types (Kd.R_types HO634.out BK639.out (by decide)) BK640.out (by decide)) (fun _ hk => hk.1.2) (.slice Ao10 t626.length co10)) (fun _ hk => hk.1.2) (.slice Ao13 t629.length co13)) (fun _ hk => hk.2) (.slice Ao14 t632.length co14)) (fun _ hk => hk.2) (.slice Ao16 t635.length co16)) (fun _ h_ => h_.1)) (fun _ h_ => h_.1))))) (Kd.R_lt (by exact (Kd.R_mono (Kd.R_mono (Kd.R_far (p := ⟨gb640, 1, none⟩) (Kd.R_far (p := ⟨gb640, 0, none⟩) (Kd.R_far (p := ⟨gb639, 1, none⟩) (Kd.R_far (p := ⟨gb639, 0, none⟩) (Kd.R_types (Kd.R_types HO637.out BK639.out (by decide)) BK640.out (by decide)) (fun _ hk => hk.1.2) (.slice Ao10 t626.length co10)) (fun _ hk => hk.1.2) (.slice Ao13 t629.length co13)) (fun _ hk => hk.2) (.slice Ao14 t632.length co14)) (fun _ hk => hk.2) (.slice Ao16 t635.length co16)) (fun _ h_ => h_.1)) (fun _ h_ => h_.1))))) (below_size (by repeat (first | (with_reducible first | exact HB.out | refine below_set ?_ GE639.out | refine below_set ?_ GE640.out))))); have HO646 := Aside0.mk (Kd.R_lower (Kd.R_new' (Kd.R_new' (Kd.R_new' (Kd.R_new' ho1 (Kd.R_lt (by exact (Kd.R_mono (Kd.R_mono (Kd.R_far (p := ⟨gb640, 1, none⟩) (Kd.R_far (p := ⟨gb640, 0, none⟩) (Kd.R_far (p := ⟨gb639, 1, none⟩) (Kd.R_far (p := ⟨gb639, 0, none⟩) (Kd.R_types (Kd.R_types HO628.out BK639.out (by decide)) BK640.out (by decide)) (fun _ hk => hk.1.2) (.slice Ao10 t626.length co10)) (fun _ hk => hk.1.2) (.slice Ao13 t629.length co13)) (fun _ hk => hk.2) (.slice Ao14 t632.length co14)) (fun _ hk => hk.2) (.slice Ao16 t635.length co16)) (fun _ h_ => h_.1)) (fun _ h_ => h_.1))))) (Kd.R_lt (by exact (Kd.R_mono (Kd.R_mono (Kd.R_far (p := ⟨gb640, 1, none⟩) (Kd.R_far (p := ⟨gb640, 0, none⟩) (Kd.R_far (p := ⟨gb639, 1, none⟩) (Kd.R_far (p := ⟨gb639, 0, none⟩) (Kd.R_types (Kd.R_types HO631.out BK639.out (by decide)) BK640.out (by decide)) (fun _ hk => hk.1.2) (.slice Ao10 t626.length co10)) (fun _ hk => hk.1.2) (.slice Ao13 t629.length co13)) (fun _ hk => hk.2) (.slice Ao14 t632.length co14)) (fun _ hk => hk.2) (.slice Ao16 t635.length co16)) (fun _ h_ => h_.1)) (fun _ h_ => h_.1))))) (Kd.R_lt (by exact (Kd.R_mono (Kd.R_mono (Kd.R_far (p := ⟨gb640, 1, none⟩) (Kd.R_far (p := ⟨gb640, 0, none⟩) (Kd.R_far (p := ⟨gb639, 1, none⟩) (Kd.R_far (p := ⟨gb639, 0, none⟩) (Kd.R_types (Kd.R_types HO634.out BK639.out (by decide)) BK640.out (by decide)) (fun _ hk => hk.1.2) (.slice Ao10 t626.length co10)) (fun _ hk => hk.1.2) (.slice Ao13 t629.length co13)) (fun _ hk => hk.2) (.slice Ao14 t632.length co14)) (fun _ hk => hk.2) (.slice Ao16 t635.length co16)) (fun _ h_ => h_.1)) (fun _ h_ => h_.1))))) (Kd.R_lt (by exact (Kd.R_mono (Kd.R_mono (Kd.R_far (p := ⟨gb640, 1, none⟩) (Kd.R_far (p := ⟨gb640, 0, none⟩) (Kd.R_far (p := ⟨gb639, 1, none⟩) (Kd.R_far (p := ⟨gb639, 0, none⟩) (Kd.R_types (Kd.R_types HO637.out BK639.out (by decide)) BK640.out (by decide)) (fun _ hk => hk.1.2) (.slice Ao10 t626.length co10)) (fun _ hk => hk.1.2) (.slice Ao13 t629.length co13)) (fun _ hk => hk.2) (.slice Ao14 t632.length co14)) (fun _ hk => hk.2) (.slice Ao16 t635.length co16)) (fun _ h_ => h_.1)) (fun _ h_ => h_.1))))) (below_size (by repeat (first | (with_reducible first | exact HB.out | refine below_set ?_ GE639.out | refine below_set ?_ GE640.out))))); replace HO628 := Aside0.mk (Kd.R_mono (Kd.R_told (Kd.R_told (Kd.R_old (by exact (Kd.R_mono (Kd.R_mono (Kd.R_far (p := ⟨gb640, 1, none⟩) (Kd.R_far (p := ⟨gb640, 0, none⟩) (Kd.R_far (p := ⟨gb639, 1, none⟩) (Kd.R_far (p := ⟨gb639, 0, none⟩) (Kd.R_types (Kd.R_types HO628.out BK639.out (by decide)) BK640.out (by decide)) (fun _ hk => hk.1.2) (.slice Ao10 t626.length co10)) (fun _ hk => hk.1.2) (.slice Ao13 t629.length co13)) (fun _ hk => hk.2) (.slice Ao14 t632.length co14)) (fun _ hk => hk.2) (.slice Ao16 t635.length co16)) (fun _ h_ => h_.1)) (fun _ h_ => h_.1))) hb) (Kd.R_base ho0)) (Kd.R_base ho1)) (fun _ h_ => h_.1)); replace HO631 := Aside0.mk (Kd.R_mono (Kd.R_told (Kd.R_told (Kd.R_old (by exact (Kd.R_mono (Kd.R_mono (Kd.R_far (p := ⟨gb640, 1, none⟩) (Kd.R_far (p := ⟨gb640, 0, none⟩) (Kd.R_far (p := ⟨gb639, 1, none⟩) (Kd.R_far (p := ⟨gb639, 0, none⟩) (Kd.R_types (Kd.R_types HO631.out BK639.out (by decide)) BK640.out (by decide)) (fun _ hk => hk.1.2) (.slice Ao10 t626.length co10)) (fun _ hk => hk.1.2) (.slice Ao13 t629.length co13)) (fun _ hk => hk.2) (.slice Ao14 t632.length co14)) (fun _ hk => hk.2) (.slice Ao16 t635.length co16)) (fun _ h_ => h_.1)) (fun _ h_ => h_.1))) hb) (Kd.R_base ho0)) (Kd.R_base ho1)) (fun _ h_ => h_.1)); replace HO634 := Aside0.mk (Kd.R_mono (Kd.R_told (Kd.R_told (Kd.R_old (by exact (Kd.R_mono (Kd.R_mono (Kd.R_far (p := ⟨gb640, 1, none⟩) (Kd.R_far (p := ⟨gb640, 0, none⟩) (Kd.R_far (p := ⟨gb639, 1, none⟩) (Kd.R_far (p := ⟨gb639, 0, none⟩) (Kd.R_types (Kd.R_types HO634.out BK639.out (by decide)) BK640.out (by decide)) (fun _ hk => hk.1.2) (.slice Ao10 t626.length co10)) (fun _ hk => hk.1.2) (.slice Ao13 t629.length co13)) (fun _ hk => hk.2) (.slice Ao14 t632.length co14)) (fun _ hk => hk.2) (.slice Ao16 t635.length co16)) (fun _ h_ => h_.1)) (fun _ h_ => h_.1))) hb) (Kd.R_base ho0)) (Kd.R_base ho1)) (fun _ h_ => h_.1)); replace HO637 := Aside0.mk (Kd.R_mono (Kd.R_told (Kd.R_told (Kd.R_old (by exact (Kd.R_mono (Kd.R_mono (Kd.R_far (p := ⟨gb640, 1, none⟩) (Kd.R_far (p := ⟨gb640, 0, none⟩) (Kd.R_far (p := ⟨gb639, 1, none⟩) (Kd.R_far (p := ⟨gb639, 0, none⟩) (Kd.R_types (Kd.R_types HO637.out BK639.out (by decide)) BK640.out (by decide)) (fun _ hk => hk.1.2) (.slice Ao10 t626.length co10)) (fun _ hk => hk.1.2) (.slice Ao13 t629.length co13)) (fun _ hk => hk.2) (.slice Ao14 t632.length co14)) (fun _ hk => hk.2) (.slice Ao16 t635.length co16)) (fun _ h_ => h_.1)) (fun _ h_ => h_.1))) hb) (Kd.R_base ho0)) (Kd.R_base ho1)) (fun _ h_ => h_.1)); replace BK639 := Aside0.mk (blk_below (g := gb639) (o := .cells #[.slice Ao10 t626.length co10, .slice Ao13 t629.length co13] 60 (0, 0)) (by refine blk_far ?_ NB639_640.out _; refine blk_far ?_ NB639_640.out _; refine blk_put (cs := #[.slice Ao10 t626.length co10, .slice none 0 0]) ?_ 1 _ rfl; refine blk_put (cs := #[.slice none 0 0, .slice none 0 0]) ?_ 0 _ rfl; exact BK639.out) hb); replace BK640 := Aside0.mk (blk_below (g := gb640) (o := .cells #[.slice Ao14 t632.length co14, .slice Ao16 t635.length co16] 60 (0, 0)) (by refine blk_put (cs := #[.slice Ao14 t632.length co14, .slice none 0 0]) ?_ 1 _ rfl; refine blk_put (cs := #[.slice none 0 0, .slice none 0 0]) ?_ 0 _ rfl; refine blk_far ?_ NB640_639.out _; refine blk_far ?_ NB640_639.out _; exact BK640.out) hb); replace HB := Aside0.mk (below_step (by repeat (first | (with_reducible first | exact HB.out | refine below_set ?_ GE639.out | refine below_set ?_ GE640.out))) hb); (try clear hb); (try clear ho0); (try clear ho1)) | ((with_reducible refine gate_dst (N := 10) rfl ?_); refine box_event ?hg (N := 10) ?hd (cs := #[.slice none 0 0, .slice none 0 0]) (t := 60) ?hr ?_; (case hd => rfl); (case hg => rfl); (case hr => first | (go_simp; done)); intro gb648 hg w18 hbox hb; replace HO628 := Aside0.mk (Kd.R_below HO628.out hb); replace HO631 := Aside0.mk (Kd.R_below HO631.out hb); replace HO634 := Aside0.mk (Kd.R_below HO634.out hb); replace HO637 := Aside0.mk (Kd.R_below HO637.out hb); replace HO643 := Aside0.mk (Kd.R_below HO643.out hb); replace HO646 := Aside0.mk (Kd.R_below HO646.out hb); have BK648 := Aside0.mk hbox; have GW648 := Aside0.mk ((by rw [hg]; exact (below_size HB.out) : w.heap.size ≤ gb648)); have GE648 := Aside0.mk ((by rw [hg]; exact (below_size HB.out) : w.heap.size ≤ gb648)); replace HB := Aside0.mk (below_step HB.out hb); have NB639_648 := Aside0.mk ((by rw [hg]; exact Nat.ne_of_lt (blk_lt (g := gb639) (o := .cells #[.slice Ao10 t626.length co10, .slice Ao13 t629.length co13] 60 (0, 0)) BK639.out) : gb639 ≠ gb648)); have NB648_639 := Aside0.mk ((by rw [hg]; exact Nat.ne_of_gt (blk_lt (g := gb639) (o := .cells #[.slice Ao10 t626.length co10, .slice Ao13 t629.length co13] 60 (0, 0)) BK639.out) : gb648 ≠ gb639)); replace BK639 := Aside0.mk (blk_below (g := gb639) (o := .cells #[.slice Ao10 t626.length co10, .slice Ao13 t629.length co13] 60 (0, 0)) BK639.out hb); have NB640_648 := Aside0.mk ((by rw [hg]; exact Nat.ne_of_lt (blk_lt (g := gb640) (o := .cells #[.slice Ao14 t632.length co14, .slice Ao16 t635.length co16] 60 (0, 0)) BK640.out) : gb640 ≠ gb648)); have NB648_640 := Aside0.mk ((by rw [hg]; exact Nat.ne_of_gt (blk_lt (g := gb640) (o := .cells #[.slice Ao14 t632.length co14, .slice Ao16 t635.length co16] 60 (0, 0)) BK640.out) : gb648 ≠ gb640)); replace BK640 := Aside0.mk (blk_below (g := gb640) (o := .cells #[.slice Ao14 t632.length co14, .slice Ao16 t635.length co16] 60 (0, 0)) BK640.out hb); clear hb hbox hg; obtain ⟨Ao19, co19, eo19⟩ := Kd.R_slice HO643.out; subst eo19; have hnb20 := NB648_639.out; have hnc20 := NB639_648.out; have hnb21 := NB648_640.out; have hnc21 := NB640_648.out; have hcz22_0 : w18.cell? ⟨gb648, 0, none⟩ = some (.slice none 0 0) := (blk_cell BK648.out 0).trans rfl; have hcz22_1 : w18.cell? ⟨gb648, 1, none⟩ = some (.slice none 0 0) := (blk_cell BK648.out 1).trans rfl; have hfz22_0 := blk_frozen BK648.out 0; have hfz22_1 := blk_frozen BK648.out 1; obtain ⟨Ao23, co23, eo23⟩ := Kd.R_slice HO646.out; subst eo23))
 go_cut [30] (fun v30 wc => ∃ (kq : Nat) (x30_5 : Bool), v30 = .bool x30_5 ∧ Aside0 (impl_SolveIs.j0 kq x30_5 t626 t629 t632 t635 t641 t644 = some r) ∧ Aside0 (kq ≤ k) ∧ Aside0 (Kd.R Kd.bool 4 wc w.heap.size (fun k_ => some k_ ≠ ((.slice Ao13 t629.length co13) : Value).ownBlock ∧ some k_ ≠ ((.slice Ao14 t632.length co14) : Value).ownBlock ∧ some k_ ≠ ((.slice Ao16 t635.length co16) : Value).ownBlock ∧ some k_ ≠ ((.slice Ao19 t641.length co19) : Value).ownBlock ∧ some k_ ≠ ((.slice Ao23 t644.length co23) : Value).ownBlock) (.slice Ao10 t626.length co10) t626) ∧ Aside0 (Kd.R Kd.bool 4 wc w.heap.size (fun k_ => some k_ ≠ ((.slice Ao10 t626.length co10) : Value).ownBlock ∧ some k_ ≠ ((.slice Ao14 t632.length co14) : Value).ownBlock ∧ some k_ ≠ ((.slice Ao16 t635.length co16) : Value).ownBlock ∧ some k_ ≠ ((.slice Ao19 t641.length co19) : Value).ownBlock ∧ some k_ ≠ ((.slice Ao23 t644.length co23) : Value).ownBlock) (.slice Ao13 t629.length co13) t629) ∧ Aside0 (Kd.R Kd.bool 4 wc w.heap.size (fun k_ => some k_ ≠ ((.slice Ao10 t626.length co10) : Value).ownBlock ∧ some k_ ≠ ((.slice Ao13 t629.length co13) : Value).ownBlock ∧ some k_ ≠ ((.slice Ao16 t635.length co16) : Value).ownBlock ∧ some k_ ≠ ((.slice Ao19 t641.length co19) : Value).ownBlock ∧ some k_ ≠ ((.slice Ao23 t644.length co23) : Value).ownBlock) (.slice Ao14 t632.length co14) t632) ∧ Aside0 (Kd.R Kd.bool 4 wc w.heap.size (fun k_ => some k_ ≠ ((.slice Ao10 t626.length co10) : Value).ownBlock ∧ some k_ ≠ ((.slice Ao13 t629.length co13) : Value).ownBlock ∧ some k_ ≠ ((.slice Ao14 t632.length co14) : Value).ownBlock ∧ some k_ ≠ ((.slice Ao19 t641.length co19) : Value).ownBlock ∧ some k_ ≠ ((.slice Ao23 t644.length co23) : Value).ownBlock) (.slice Ao16 t635.length co16) t635) ∧ Aside0 (Kd.R Kd.bool 4 wc w.heap.size (fun k_ => some k_ ≠ ((.slice Ao10 t626.length co10) : Value).ownBlock ∧ some k_ ≠ ((.slice Ao13 t629.length co13) : Value).ownBlock ∧ some k_ ≠ ((.slice Ao14 t632.length co14) : Value).ownBlock ∧ some k_ ≠ ((.slice Ao16 t635.length co16) : Value).ownBlock ∧ some k_ ≠ ((.slice Ao23 t644.length co23) : Value).ownBlock) (.slice Ao19 t641.length co19) t641) ∧ Aside0 (Kd.R Kd.bool 4 wc w.heap.size (fun k_ => some k_ ≠ ((.slice Ao10 t626.length co10) : Value).ownBlock ∧ some k_ ≠ ((.slice Ao13 t629.length co13) : Value).ownBlock ∧ some k_ ≠ ((.slice Ao14 t632.length co14) : Value).ownBlock ∧ some k_ ≠ ((.slice Ao16 t635.length co16) : Value).ownBlock ∧ some k_ ≠ ((.slice Ao19 t641.length co19) : Value).ownBlock) (.slice Ao23 t644.length co23) t644) ∧ Aside0 (wc.heap[gb639]? = some (.cells #[(.slice Ao10 t626.length co10), (.slice Ao13 t629.length co13)] 60 (0, 0))) ∧ Aside0 (wc.heap[gb640]? = some (.cells #[(.slice Ao14 t632.length co14), (.slice Ao16 t635.length co16)] 60 (0, 0))) ∧ Aside0 (wc.heap[gb648]? = some (.cells #[(.slice Ao19 t641.length co19), (.slice Ao23 t644.length co23)] 60 (0, 0))) ∧ Aside0 (Below w.heap.size w wc))
 case first =>
  have H := HC6.out
  clear HC6
  by_cases c24 : t638 = true
  ·subst c24
   replace H : (impl_SolveIs.j0 k (!t647) t626 t629 t632 t635 t641 t644) = some r := by rw [if_pos rfl] at H; exact H
   have H' := Aside0.mk H
   clear H
   go_wp2
   go_meet
   case rel => exact ⟨_, (!t647), (by rfl), H', ⟨by omega⟩, ⟨by exact Kd.R_mono (Kd.R_far (p := ⟨gb648, 1, none⟩) (Kd.R_far (p := ⟨gb648, 0, none⟩) (Kd.R_types HO628.out BK648.out (by decide)) (fun _ hk => hk.2) (.slice Ao19 t641.length co19)) (fun _ hk => hk.2) (.slice Ao23 t644.length co23)) (fun _ hk => ⟨hk.1.1.1.1, ⟨hk.1.1.1.2.1, ⟨hk.1.1.1.2.2, ⟨hk.1.1.2, hk.1.2⟩⟩⟩⟩)⟩, ⟨by exact Kd.R_mono (Kd.R_far (p := ⟨gb648, 1, none⟩) (Kd.R_far (p := ⟨gb648, 0, none⟩) (Kd.R_types HO631.out BK648.out (by decide)) (fun _ hk => hk.2) (.slice Ao19 t641.length co19)) (fun _ hk => hk.2) (.slice Ao23 t644.length co23)) (fun _ hk => ⟨hk.1.1.1.1, ⟨hk.1.1.1.2.1, ⟨hk.1.1.1.2.2, ⟨hk.1.1.2, hk.1.2⟩⟩⟩⟩)⟩, ⟨by exact Kd.R_mono (Kd.R_far (p := ⟨gb648, 1, none⟩) (Kd.R_far (p := ⟨gb648, 0, none⟩) (Kd.R_types HO634.out BK648.out (by decide)) (fun _ hk => hk.2) (.slice Ao19 t641.length co19)) (fun _ hk => hk.2) (.slice Ao23 t644.length co23)) (fun _ hk => ⟨hk.1.1.1.1, ⟨hk.1.1.1.2.1, ⟨hk.1.1.1.2.2, ⟨hk.1.1.2, hk.1.2⟩⟩⟩⟩)⟩, ⟨by exact Kd.R_mono (Kd.R_far (p := ⟨gb648, 1, none⟩) (Kd.R_far (p := ⟨gb648, 0, none⟩) (Kd.R_types HO637.out BK648.out (by decide)) (fun _ hk => hk.2) (.slice Ao19 t641.length co19)) (fun _ hk => hk.2) (.slice Ao23 t644.length co23)) (fun _ hk => ⟨hk.1.1.1.1, ⟨hk.1.1.1.2.1, ⟨hk.1.1.1.2.2, ⟨hk.1.1.2, hk.1.2⟩⟩⟩⟩)⟩, ⟨by exact Kd.R_mono (Kd.R_far (p := ⟨gb648, 1, none⟩) (Kd.R_far (p := ⟨gb648, 0, none⟩) (Kd.R_types HO643.out BK648.out (by decide)) (fun _ hk => hk.2) (.slice Ao19 t641.length co19)) (fun _ hk => hk.2) (.slice Ao23 t644.length co23)) (fun _ hk => ⟨hk.1.1.1.1.2, ⟨hk.1.1.1.2, ⟨hk.1.1.2, ⟨hk.1.2, hk.1.1.1.1.1⟩⟩⟩⟩)⟩, ⟨by exact Kd.R_mono (Kd.R_far (p := ⟨gb648, 1, none⟩) (Kd.R_far (p := ⟨gb648, 0, none⟩) (Kd.R_types HO646.out BK648.out (by decide)) (fun _ hk => hk.2) (.slice Ao19 t641.length co19)) (fun _ hk => hk.2) (.slice Ao23 t644.length co23)) (fun _ hk => ⟨hk.1.1.1.1.2, ⟨hk.1.1.1.2, ⟨hk.1.1.2, ⟨hk.1.2, hk.1.1.1.1.1⟩⟩⟩⟩)⟩, ⟨by refine blk_far ?_ NB639_648.out _; refine blk_far ?_ NB639_648.out _; exact BK639.out⟩, ⟨by refine blk_far ?_ NB640_648.out _; refine blk_far ?_ NB640_648.out _; exact BK640.out⟩, ⟨by refine blk_put (cs := #[.slice Ao19 t641.length co19, .slice none 0 0]) ?_ 1 _ rfl; refine blk_put (cs := #[.slice none 0 0, .slice none 0 0]) ?_ 0 _ rfl; exact BK648.out⟩, ⟨by repeat (first | (with_reducible first | exact HB.out | refine below_set ?_ GE648.out))⟩⟩
  ·replace c24 := Bool.eq_false_iff.mpr c24
   subst c24
   replace H : (impl_SolveIs.j0 k true t626 t629 t632 t635 t641 t644) = some r := by rw [if_neg (show ¬ (false = true) by decide)] at H; exact H
   have H' := Aside0.mk H
   clear H
   go_wp2
   go_meet
   case rel => exact ⟨_, (true), (by rfl), H', ⟨by omega⟩, ⟨by exact Kd.R_mono (Kd.R_far (p := ⟨gb648, 1, none⟩) (Kd.R_far (p := ⟨gb648, 0, none⟩) (Kd.R_types HO628.out BK648.out (by decide)) (fun _ hk => hk.2) (.slice Ao19 t641.length co19)) (fun _ hk => hk.2) (.slice Ao23 t644.length co23)) (fun _ hk => ⟨hk.1.1.1.1, ⟨hk.1.1.1.2.1, ⟨hk.1.1.1.2.2, ⟨hk.1.1.2, hk.1.2⟩⟩⟩⟩)⟩, ⟨by exact Kd.R_mono (Kd.R_far (p := ⟨gb648, 1, none⟩) (Kd.R_far (p := ⟨gb648, 0, none⟩) (Kd.R_types HO631.out BK648.out (by decide)) (fun _ hk => hk.2) (.slice Ao19 t641.length co19)) (fun _ hk => hk.2) (.slice Ao23 t644.length co23)) (fun _ hk => ⟨hk.1.1.1.1, ⟨hk.1.1.1.2.1, ⟨hk.1.1.1.2.2, ⟨hk.1.1.2, hk.1.2⟩⟩⟩⟩)⟩, ⟨by exact Kd.R_mono (Kd.R_far (p := ⟨gb648, 1, none⟩) (Kd.R_far (p := ⟨gb648, 0, none⟩) (Kd.R_types HO634.out BK648.out (by decide)) (fun _ hk => hk.2) (.slice Ao19 t641.length co19)) (fun _ hk => hk.2) (.slice Ao23 t644.length co23)) (fun _ hk => ⟨hk.1.1.1.1, ⟨hk.1.1.1.2.1, ⟨hk.1.1.1.2.2, ⟨hk.1.1.2, hk.1.2⟩⟩⟩⟩)⟩, ⟨by exact Kd.R_mono (Kd.R_far (p := ⟨gb648, 1, none⟩) (Kd.R_far (p := ⟨gb648, 0, none⟩) (Kd.R_types HO637.out BK648.out (by decide)) (fun _ hk => hk.2) (.slice Ao19 t641.length co19)) (fun _ hk => hk.2) (.slice Ao23 t644.length co23)) (fun _ hk => ⟨hk.1.1.1.1, ⟨hk.1.1.1.2.1, ⟨hk.1.1.1.2.2, ⟨hk.1.1.2, hk.1.2⟩⟩⟩⟩)⟩, ⟨by exact Kd.R_mono (Kd.R_far (p := ⟨gb648, 1, none⟩) (Kd.R_far (p := ⟨gb648, 0, none⟩) (Kd.R_types HO643.out BK648.out (by decide)) (fun _ hk => hk.2) (.slice Ao19 t641.length co19)) (fun _ hk => hk.2) (.slice Ao23 t644.length co23)) (fun _ hk => ⟨hk.1.1.1.1.2, ⟨hk.1.1.1.2, ⟨hk.1.1.2, ⟨hk.1.2, hk.1.1.1.1.1⟩⟩⟩⟩)⟩, ⟨by exact Kd.R_mono (Kd.R_far (p := ⟨gb648, 1, none⟩) (Kd.R_far (p := ⟨gb648, 0, none⟩) (Kd.R_types HO646.out BK648.out (by decide)) (fun _ hk => hk.2) (.slice Ao19 t641.length co19)) (fun _ hk => hk.2) (.slice Ao23 t644.length co23)) (fun _ hk => ⟨hk.1.1.1.1.2, ⟨hk.1.1.1.2, ⟨hk.1.1.2, ⟨hk.1.2, hk.1.1.1.1.1⟩⟩⟩⟩)⟩, ⟨by refine blk_far ?_ NB639_648.out _; refine blk_far ?_ NB639_648.out _; exact BK639.out⟩, ⟨by refine blk_far ?_ NB640_648.out _; refine blk_far ?_ NB640_648.out _; exact BK640.out⟩, ⟨by refine blk_put (cs := #[.slice Ao19 t641.length co19, .slice none 0 0]) ?_ 1 _ rfl; refine blk_put (cs := #[.slice none 0 0, .slice none 0 0]) ?_ 0 _ rfl; exact BK648.out⟩, ⟨by repeat (first | (with_reducible first | exact HB.out | refine below_set ?_ GE648.out))⟩⟩
 case rest =>
  clear HC6
  try clear hcz12_0
  try clear hcz12_1
  try clear hcz15_0
  try clear hcz15_1
  try clear hcz22_0
  try clear hcz22_1
  try clear hfz12_0
  try clear hfz12_1
  try clear hfz15_0
  try clear hfz15_1
  try clear hfz22_0
  try clear hfz22_1
  obtain ⟨kq, x30_5, rfl, HA, HJ5, HO_640000, HO_640001, HO_641000, HO_641001, HO_649000, HO_649001, BK639, BK640, BK648, HB⟩ := hcut
  cases kq with
  | zero => exact absurd HA.out (by simp [impl_SolveIs.j0])
  | succ kj5 =>
   have H := HA.out
   clear HA
   simp only [impl_SolveIs.j0] at H
   by_cases c25 : x30_5 = true
   ·subst c25
    replace H : (some false) = some r := by rw [if_pos rfl] at H; exact H
    obtain rfl := Option.some.inj H
    go_wp2
    go_ret
    exact ⟨by first | rfl | (simp [*, errW_none, errW_some] <;> rfl), HB.out⟩
   ·replace c25 := Bool.eq_false_iff.mpr c25
    subst c25
    replace H : (impl_SolveIs.l0 kj5 0 t626 t629 t632 t635 t641 t644) = some r := by rw [if_neg (show ¬ (false = true) by decide)] at H; exact H
    have H' := Aside0.mk H
    clear H
    go_wp2
    go_loopg [31] kj5 (fun kq v31 w' => ∃ (x31_2 : Int), v31 = .int .i64 x31_2 ∧ Aside0 (impl_SolveIs.l0 kq x31_2 t626 t629 t632 t635 t641 t644 = some r) ∧ Aside0 (kq ≤ kj5) ∧ Aside0 (Kd.R Kd.bool 4 w' w.heap.size (fun k_ => some k_ ≠ ((.slice Ao13 t629.length co13) : Value).ownBlock ∧ some k_ ≠ ((.slice Ao14 t632.length co14) : Value).ownBlock ∧ some k_ ≠ ((.slice Ao16 t635.length co16) : Value).ownBlock ∧ some k_ ≠ ((.slice Ao19 t641.length co19) : Value).ownBlock ∧ some k_ ≠ ((.slice Ao23 t644.length co23) : Value).ownBlock) (.slice Ao10 t626.length co10) t626) ∧ Aside0 (Kd.R Kd.bool 4 w' w.heap.size (fun k_ => some k_ ≠ ((.slice Ao10 t626.length co10) : Value).ownBlock ∧ some k_ ≠ ((.slice Ao14 t632.length co14) : Value).ownBlock ∧ some k_ ≠ ((.slice Ao16 t635.length co16) : Value).ownBlock ∧ some k_ ≠ ((.slice Ao19 t641.length co19) : Value).ownBlock ∧ some k_ ≠ ((.slice Ao23 t644.length co23) : Value).ownBlock) (.slice Ao13 t629.length co13) t629) ∧ Aside0 (Kd.R Kd.bool 4 w' w.heap.size (fun k_ => some k_ ≠ ((.slice Ao10 t626.length co10) : Value).ownBlock ∧ some k_ ≠ ((.slice Ao13 t629.length co13) : Value).ownBlock ∧ some k_ ≠ ((.slice Ao16 t635.length co16) : Value).ownBlock ∧ some k_ ≠ ((.slice Ao19 t641.length co19) : Value).ownBlock ∧ some k_ ≠ ((.slice Ao23 t644.length co23) : Value).ownBlock) (.slice Ao14 t632.length co14) t632) ∧ Aside0 (Kd.R Kd.bool 4 w' w.heap.size (fun k_ => some k_ ≠ ((.slice Ao10 t626.length co10) : Value).ownBlock ∧ some k_ ≠ ((.slice Ao13 t629.length co13) : Value).ownBlock ∧ some k_ ≠ ((.slice Ao14 t632.length co14) : Value).ownBlock ∧ some k_ ≠ ((.slice Ao19 t641.length co19) : Value).ownBlock ∧ some k_ ≠ ((.slice Ao23 t644.length co23) : Value).ownBlock) (.slice Ao16 t635.length co16) t635) ∧ Aside0 (Kd.R Kd.bool 4 w' w.heap.size (fun k_ => some k_ ≠ ((.slice Ao10 t626.length co10) : Value).ownBlock ∧ some k_ ≠ ((.slice Ao13 t629.length co13) : Value).ownBlock ∧ some k_ ≠ ((.slice Ao14 t632.length co14) : Value).ownBlock ∧ some k_ ≠ ((.slice Ao16 t635.length co16) : Value).ownBlock ∧ some k_ ≠ ((.slice Ao23 t644.length co23) : Value).ownBlock) (.slice Ao19 t641.length co19) t641) ∧ Aside0 (Kd.R Kd.bool 4 w' w.heap.size (fun k_ => some k_ ≠ ((.slice Ao10 t626.length co10) : Value).ownBlock ∧ some k_ ≠ ((.slice Ao13 t629.length co13) : Value).ownBlock ∧ some k_ ≠ ((.slice Ao14 t632.length co14) : Value).ownBlock ∧ some k_ ≠ ((.slice Ao16 t635.length co16) : Value).ownBlock ∧ some k_ ≠ ((.slice Ao19 t641.length co19) : Value).ownBlock) (.slice Ao23 t644.length co23) t644) ∧ Aside0 (w'.heap[gb639]? = some (.cells #[(.slice Ao10 t626.length co10), (.slice Ao13 t629.length co13)] 60 (0, 0))) ∧ Aside0 (w'.heap[gb640]? = some (.cells #[(.slice Ao14 t632.length co14), (.slice Ao16 t635.length co16)] 60 (0, 0))) ∧ Aside0 (w'.heap[gb648]? = some (.cells #[(.slice Ao19 t641.length co19), (.slice Ao23 t644.length co23)] 60 (0, 0))) ∧ Aside0 (Below w.heap.size w w'))
    case atStart => exact ⟨(0), (by rfl), H', ⟨Nat.le_refl _⟩, ⟨by exact HO_640000.out⟩, ⟨by exact HO_640001.out⟩, ⟨by exact HO_641000.out⟩, ⟨by exact HO_641001.out⟩, ⟨by exact HO_649000.out⟩, ⟨by exact HO_649001.out⟩, ⟨by exact BK639.out⟩, ⟨by exact BK640.out⟩, ⟨by exact BK648.out⟩, ⟨HB.out⟩⟩
    case round =>
     clear H'
     obtain ⟨x31_2, rfl, HA, HK2, HO_640000, HO_640001, HO_641000, HO_641001, HO_649000, HO_649001, BK639, BK640, BK648, HB⟩ := hrel
     cases gk with
     | zero => exact absurd HA.out (by simp [impl_SolveIs.l0])
     | succ k2 =>
      have H := HA.out
      clear HA
      simp only [impl_SolveIs.l0] at H
      by_cases c26 : x31_2 < 400
      ·rw [if_pos c26] at H
       have c26b0 : decide (x31_2 < 400) = true := decide_eq_true c26
       clear c26
       replace H := Option.bind_eq_some_iff.mp H
       obtain ⟨t649, A270, H⟩ := H
       replace H : ((impl_set_has.f t632 t635 x31_2).bind fun t650 => (if t650 = true then (if (t649 != true) = true then (some false) else (impl_SolveIs.l0 k2 (wrap64 (x31_2 + 1)) t626 t629 t632 t635 t641 t644)) else ((impl_sums.f k2 t626 t629 t641 t644 x31_2).bind fun t651 => (if (t649 != t651) = true then (some false) else (impl_SolveIs.l0 k2 (wrap64 (x31_2 + 1)) t626 t629 t632 t635 t641 t644))))) = some r := H
       have A27 := Aside0.mk A270
       clear A270
       replace H := Option.bind_eq_some_iff.mp H
       obtain ⟨t650, A280, H⟩ := H
       replace H : (if t650 = true then (if (t649 != true) = true then (some false) else (impl_SolveIs.l0 k2 (wrap64 (x31_2 + 1)) t626 t629 t632 t635 t641 t644)) else ((impl_sums.f k2 t626 t629 t641 t644 x31_2).bind fun t651 => (if (t649 != t651) = true then (some false) else (impl_SolveIs.l0 k2 (wrap64 (x31_2 + 1)) t626 t629 t632 t635 t641 t644)))) = some r := H
       have A28 := Aside0.mk A280
       clear A280
       by_cases c29 : t650 = true
       ·subst c29
        replace H : (if (t649 != true) = true then (some false) else (impl_SolveIs.l0 k2 (wrap64 (x31_2 + 1)) t626 t629 t632 t635 t641 t644)) = some r := by rw [if_pos rfl] at H; exact H
        by_cases c30 : (t649 != true) = true
        all_goals
         first
         |rw [if_pos c30] at H
          have c30b0 : (t649 != true) = true := c30
          (try (have c30b1 : decide (t649 = true) = false := by simpa using c30))
          (try (have c30b2 : (t649 == true) = false := by simpa using c30))
          (try (have c30b3 : ¬ (t649 = true) := by simpa using c30))
         |rw [if_neg c30] at H
          have c30b0 : (t649 != true) = false := by simpa using c30
          (try (have c30b1 : decide (t649 = true) = true := by simpa using c30))
          (try (have c30b2 : (t649 == true) = true := by simpa using c30))
         clear c30
         first
         |obtain rfl := Option.some.inj H
         |have H' := Aside0.mk H
          clear H
         try go_wp2
         replace HO_640000 := Aside0.mk (Kd.R_drew HO_640000.out)
         replace HO_640001 := Aside0.mk (Kd.R_drew HO_640001.out)
         replace HO_641000 := Aside0.mk (Kd.R_drew HO_641000.out)
         replace HO_641001 := Aside0.mk (Kd.R_drew HO_641001.out)
         replace HO_649000 := Aside0.mk (Kd.R_drew HO_649000.out)
         replace HO_649001 := Aside0.mk (Kd.R_drew HO_649001.out)
         replace BK639 := Aside0.mk (blk_drew BK639.out)
         replace BK640 := Aside0.mk (blk_drew BK640.out)
         replace BK648 := Aside0.mk (blk_drew BK648.out)
         replace HB := Aside0.mk (below_drew1 HB.out)
         refine start_ (n := 13) (S := fun w' => w'.cell? ⟨gb648, 0, none⟩ = some (.slice Ao19 t641.length co19) ∧ w'.cell? ⟨gb648, 1, none⟩ = some (.slice Ao23 t644.length co23) ∧ w'.cell? ⟨gb640, 0, none⟩ = some (.slice Ao14 t632.length co14) ∧ w'.cell? ⟨gb640, 1, none⟩ = some (.slice Ao16 t635.length co16)) (ds := []) #[false, false, false, false, false, false, false, false, false, false, false, false, false] (by kernel_rfl) rfl rfl ⟨(blk_cell BK648.out 0).trans rfl, (blk_cell BK648.out 1).trans rfl, (blk_cell BK640.out 0).trans rfl, (blk_cell BK640.out 1).trans rfl⟩ (fun hHeld => ?_); refine with_tabW impl_SolveIs.tab8 impl_SolveIs.bits8 (fun HT_ HW_ => ?_)
         generalize wr.drew = w31 at HO_640000 HO_640001 HO_641000 HO_641001 HO_649000 HO_649001 BK639 BK640 BK648 HB hHeld ⊢
         refine pure_ (i := 1) (N := some 35) (v := ?_) (a' := ?_) #[false, true, false, false, false, false, false, false, false, false, false, false, false] rfl rfl (any_of HT_.out (by kernel_rfl)) (fun _ _ _ h => h) (Or.inl ⟨by rfl, ?_⟩) ?_ ?_
         rotate_left
         ·intro w'
          go_simp
          with_reducible rfl
         rotate_left
         ·simp only [Act.put, List.setIfInBounds_toArray, List.set_cons_zero, List.set_cons_succ, i64_w, i32_w]
          rfl
         refine pure_ (i := 4) (N := some 38) (v := ?_) (a' := ?_) #[false, true, false, false, true, false, false, false, false, false, false, false, false] rfl rfl (any_of HT_.out (by kernel_rfl)) (fun _ _ _ h => h) (Or.inl ⟨by rfl, ?_⟩) ?_ ?_
         rotate_left
         ·intro w'
          go_simp
          with_reducible rfl
         rotate_left
         ·simp only [Act.put, List.setIfInBounds_toArray, List.set_cons_zero, List.set_cons_succ, i64_w, i32_w]
          rfl
         refine take_ (i := 0) (N := some 34) (v := ?_) (a' := ?_) #[true, true, false, false, true, false, false, false, false, false, false, false, false] rfl rfl (take_ofW HT_.out HW_.out (by kernel_rfl)) (fun _ _ _ h => h) (Or.inl ⟨by rfl, ?_⟩) hHeld ?_ ?_
         rotate_left
         ·rintro w' ⟨s0, s1, s2, s3⟩
          go_simp
          with_reducible rfl
         rotate_left
         ·simp only [Act.put, List.setIfInBounds_toArray, List.set_cons_zero, List.set_cons_succ, i64_w, i32_w]
          rfl
         refine take_ (i := 3) (N := some 37) (v := ?_) (a' := ?_) #[true, true, false, true, true, false, false, false, false, false, false, false, false] rfl rfl (take_ofW HT_.out HW_.out (by kernel_rfl)) (fun _ _ _ h => h) (Or.inl ⟨by rfl, ?_⟩) hHeld ?_ ?_
         rotate_left
         ·rintro w' ⟨s0, s1, s2, s3⟩
          go_simp
          with_reducible rfl
         rotate_left
         ·simp only [Act.put, List.setIfInBounds_toArray, List.set_cons_zero, List.set_cons_succ, i64_w, i32_w]
          rfl
         refine one_ (i := 2) (N := some 36) #[true, true, true, true, true, false, false, false, false, false, false, false, false] rfl rfl (one_of HT_.out (by kernel_rfl)) (by decide) (fun K hK => ?_)
         refine goes_ Try.func61 (by kernel_rfl) rfl #[.agg #[.slice Ao19 t641.length co19, .slice Ao23 t644.length co23], .int .i64 x31_2] (by rfl) rfl rfl (by (try simp only [List.map_toArray, List.map_cons, List.map_nil]); rfl) ?_
         with_reducible refine (impl_set_has.calls _ _ t641 _ _ t644 x31_2 t649 _ ?side1 ?side2 ?side3 ?side4 A27.out).mono ?_
         (case side1 => repeat (exact (Kd.R_reads' HO_649000.out).2.2))
         (case side2 => exact (Kd.R_reads' HO_649000.out).2.1)
         (case side3 => repeat (exact (Kd.R_reads' HO_649001.out).2.2))
         (case side4 => exact (Kd.R_reads' HO_649001.out).2.1)
         rintro e w32 ⟨rfl, hb⟩
         refine ⟨_, rfl, ?_⟩
         replace HO_640000 := Aside0.mk (Kd.R_below HO_640000.out hb)
         replace HO_640001 := Aside0.mk (Kd.R_below HO_640001.out hb)
         replace HO_641000 := Aside0.mk (Kd.R_below HO_641000.out hb)
         replace HO_641001 := Aside0.mk (Kd.R_below HO_641001.out hb)
         replace HO_649000 := Aside0.mk (Kd.R_below HO_649000.out hb)
         replace HO_649001 := Aside0.mk (Kd.R_below HO_649001.out hb)
         replace BK639 := Aside0.mk (blk_below (g := gb639) (o := .cells #[.slice Ao10 t626.length co10, .slice Ao13 t629.length co13] 60 (0, 0)) BK639.out hb)
         replace BK640 := Aside0.mk (blk_below (g := gb640) (o := .cells #[.slice Ao14 t632.length co14, .slice Ao16 t635.length co16] 60 (0, 0)) BK640.out hb)
         replace BK648 := Aside0.mk (blk_below (g := gb648) (o := .cells #[.slice Ao19 t641.length co19, .slice Ao23 t644.length co23] 60 (0, 0)) BK648.out hb)
         replace HB := Aside0.mk (below_step HB.out hb)
         (try clear hb)
         refine hK.out _ _ ⟨(blk_cell BK648.out 0).trans rfl, (blk_cell BK648.out 1).trans rfl, (blk_cell BK640.out 0).trans rfl, (blk_cell BK640.out 1).trans rfl⟩ (fun hHeld => ?_)
         clear hK K
         refine norm_ (a' := ?_) ?_ ?_
         rotate_left
         ·show Act.put _ (some 36) _ = _
          simp only [Act.put, List.setIfInBounds_toArray, List.set_cons_zero, List.set_cons_succ, i64_w, i32_w]
          rfl
         refine one_ (i := 5) (N := some 39) #[true, true, true, true, true, true, false, false, false, false, false, false, false] rfl rfl (one_of HT_.out (by kernel_rfl)) (by decide) (fun K hK => ?_)
         refine goes_ Try.func61 (by kernel_rfl) rfl #[.agg #[.slice Ao14 t632.length co14, .slice Ao16 t635.length co16], .int .i64 x31_2] (by rfl) rfl rfl (by (try simp only [List.map_toArray, List.map_cons, List.map_nil]); rfl) ?_
         with_reducible refine (impl_set_has.calls _ _ t632 _ _ t635 x31_2 true _ ?side1 ?side2 ?side3 ?side4 A28.out).mono ?_
         (case side1 => repeat (exact (Kd.R_reads' HO_641000.out).2.2))
         (case side2 => exact (Kd.R_reads' HO_641000.out).2.1)
         (case side3 => repeat (exact (Kd.R_reads' HO_641001.out).2.2))
         (case side4 => exact (Kd.R_reads' HO_641001.out).2.1)
         rintro e w33 ⟨rfl, hb⟩
         refine ⟨_, rfl, ?_⟩
         replace HO_640000 := Aside0.mk (Kd.R_below HO_640000.out hb)
         replace HO_640001 := Aside0.mk (Kd.R_below HO_640001.out hb)
         replace HO_641000 := Aside0.mk (Kd.R_below HO_641000.out hb)
         replace HO_641001 := Aside0.mk (Kd.R_below HO_641001.out hb)
         replace HO_649000 := Aside0.mk (Kd.R_below HO_649000.out hb)
         replace HO_649001 := Aside0.mk (Kd.R_below HO_649001.out hb)
         replace BK639 := Aside0.mk (blk_below (g := gb639) (o := .cells #[.slice Ao10 t626.length co10, .slice Ao13 t629.length co13] 60 (0, 0)) BK639.out hb)
         replace BK640 := Aside0.mk (blk_below (g := gb640) (o := .cells #[.slice Ao14 t632.length co14, .slice Ao16 t635.length co16] 60 (0, 0)) BK640.out hb)
         replace BK648 := Aside0.mk (blk_below (g := gb648) (o := .cells #[.slice Ao19 t641.length co19, .slice Ao23 t644.length co23] 60 (0, 0)) BK648.out hb)
         replace HB := Aside0.mk (below_step HB.out hb)
         (try clear hb)
         refine hK.out _ _ ⟨(blk_cell BK648.out 0).trans rfl, (blk_cell BK648.out 1).trans rfl, (blk_cell BK640.out 0).trans rfl, (blk_cell BK640.out 1).trans rfl⟩ (fun hHeld => ?_)
         clear hK K
         refine norm_ (a' := ?_) ?_ ?_
         rotate_left
         ·show Act.put _ (some 39) _ = _
          simp only [Act.put, List.setIfInBounds_toArray, List.set_cons_zero, List.set_cons_succ, i64_w, i32_w]
          rfl
         refine pure_ (i := 6) (N := some 40) (v := ?_) (a' := ?_) #[true, true, true, true, true, true, true, false, false, false, false, false, false] rfl rfl (any_of HT_.out (by kernel_rfl)) (fun _ _ _ h => h) (Or.inl ⟨by rfl, ?_⟩) ?_ ?_
         rotate_left
         ·intro w'
          go_simp
          with_reducible rfl
         rotate_left
         ·simp only [Act.put, List.setIfInBounds_toArray, List.set_cons_zero, List.set_cons_succ, i64_w, i32_w]
          rfl
         refine pure_ (i := 7) (N := some 41) (v := undef) (a' := ?_) #[true, true, true, true, true, true, true, true, false, false, false, false, false] rfl rfl (any_of HT_.out (by kernel_rfl)) (fun _ _ _ h => h) (Or.inr ⟨by rfl, rfl⟩) ?_ ?_
         rotate_left
         ·simp only [Act.put, List.setIfInBounds_toArray, List.set_cons_zero, List.set_cons_succ, i64_w, i32_w]
          rfl
         refine pure_ (i := 8) (N := some 42) (v := undef) (a' := ?_) #[true, true, true, true, true, true, true, true, true, false, false, false, false] rfl rfl (any_of HT_.out (by kernel_rfl)) (fun _ _ _ h => h) (Or.inr ⟨by rfl, rfl⟩) ?_ ?_
         rotate_left
         ·simp only [Act.put, List.setIfInBounds_toArray, List.set_cons_zero, List.set_cons_succ, i64_w, i32_w]
          rfl
         refine pure_ (i := 9) (N := some 43) (v := undef) (a' := ?_) #[true, true, true, true, true, true, true, true, true, true, false, false, false] rfl rfl (any_of HT_.out (by kernel_rfl)) (fun _ _ _ h => h) (Or.inr ⟨by rfl, rfl⟩) ?_ ?_
         rotate_left
         ·simp only [Act.put, List.setIfInBounds_toArray, List.set_cons_zero, List.set_cons_succ, i64_w, i32_w]
          rfl
         refine pure_ (i := 10) (N := some 44) (v := undef) (a' := ?_) #[true, true, true, true, true, true, true, true, true, true, true, false, false] rfl rfl (any_of HT_.out (by kernel_rfl)) (fun _ _ _ h => h) (Or.inr ⟨by rfl, rfl⟩) ?_ ?_
         rotate_left
         ·simp only [Act.put, List.setIfInBounds_toArray, List.set_cons_zero, List.set_cons_succ, i64_w, i32_w]
          rfl
         refine pure_ (i := 11) (N := some 45) (v := ?_) (a' := ?_) #[true, true, true, true, true, true, true, true, true, true, true, true, false] rfl rfl (any_of HT_.out (by kernel_rfl)) (fun _ _ _ h => h) (Or.inl ⟨by rfl, ?_⟩) ?_ ?_
         rotate_left
         ·intro w'
          go_simp
          with_reducible rfl
         rotate_left
         ·simp only [Act.put, List.setIfInBounds_toArray, List.set_cons_zero, List.set_cons_succ, i64_w, i32_w]
          rfl
         refine pure_ (i := 12) (N := some 46) (v := ?_) (a' := ?_) #[true, true, true, true, true, true, true, true, true, true, true, true, true] rfl rfl (any_of HT_.out (by kernel_rfl)) (fun _ _ _ h => h) (Or.inl ⟨by rfl, ?_⟩) ?_ ?_
         rotate_left
         ·intro w'
          go_simp
          with_reducible rfl
         rotate_left
         ·simp only [Act.put, List.setIfInBounds_toArray, List.set_cons_zero, List.set_cons_succ, i64_w, i32_w]
          rfl
         refine done_ (done_of HT_.out (by kernel_rfl)) ?_
         try go_wp2
         first
         |go_ret
          exact ⟨by first | rfl | (simp [*, errW_none, errW_some] <;> rfl), HB.out⟩
         |go_roundg k2
          case measure => have := HJ5.out; have := HK2.out; omega
          case rel => exact ⟨(wrap64 (x31_2 + 1)), (by rfl), H', ⟨by have := HJ5.out; have := HK2.out; omega⟩, ⟨by exact HO_640000.out⟩, ⟨by exact HO_640001.out⟩, ⟨by exact HO_641000.out⟩, ⟨by exact HO_641001.out⟩, ⟨by exact HO_649000.out⟩, ⟨by exact HO_649001.out⟩, ⟨by exact BK639.out⟩, ⟨by exact BK640.out⟩, ⟨by exact BK648.out⟩, ⟨HB.out⟩⟩
       ·replace c29 := Bool.eq_false_iff.mpr c29
        subst c29
        replace H : ((impl_sums.f k2 t626 t629 t641 t644 x31_2).bind fun t651 => (if (t649 != t651) = true then (some false) else (impl_SolveIs.l0 k2 (wrap64 (x31_2 + 1)) t626 t629 t632 t635 t641 t644))) = some r := by rw [if_neg (show ¬ (false = true) by decide)] at H; exact H
        replace H := Option.bind_eq_some_iff.mp H
        obtain ⟨t651, A370, H⟩ := H
        replace H : (if (t649 != t651) = true then (some false) else (impl_SolveIs.l0 k2 (wrap64 (x31_2 + 1)) t626 t629 t632 t635 t641 t644)) = some r := H
        have A37 := Aside0.mk A370
        clear A370
        by_cases c38 : (t649 != t651) = true
        all_goals
         first
         |rw [if_pos c38] at H
          have c38b0 : (t649 != t651) = true := c38
          (try (have c38b1 : decide (t649 = t651) = false := by simpa using c38))
          (try (have c38b2 : (t649 == t651) = false := by simpa using c38))
          (try (have c38b3 : ¬ (t649 = t651) := by simpa using c38))
         |rw [if_neg c38] at H
          have c38b0 : (t649 != t651) = false := by simpa using c38
          (try (have c38b1 : decide (t649 = t651) = true := by simpa using c38))
          (try (have c38b2 : (t649 == t651) = true := by simpa using c38))
         clear c38
         first
         |obtain rfl := Option.some.inj H
         |have H' := Aside0.mk H
          clear H
         try go_wp2
         replace HO_640000 := Aside0.mk (Kd.R_drew HO_640000.out)
         replace HO_640001 := Aside0.mk (Kd.R_drew HO_640001.out)
         replace HO_641000 := Aside0.mk (Kd.R_drew HO_641000.out)
         replace HO_641001 := Aside0.mk (Kd.R_drew HO_641001.out)
         replace HO_649000 := Aside0.mk (Kd.R_drew HO_649000.out)
         replace HO_649001 := Aside0.mk (Kd.R_drew HO_649001.out)
         replace BK639 := Aside0.mk (blk_drew BK639.out)
         replace BK640 := Aside0.mk (blk_drew BK640.out)
         replace BK648 := Aside0.mk (blk_drew BK648.out)
         replace HB := Aside0.mk (below_drew1 HB.out)
         refine start_ (n := 13) (S := fun w' => w'.cell? ⟨gb648, 0, none⟩ = some (.slice Ao19 t641.length co19) ∧ w'.cell? ⟨gb648, 1, none⟩ = some (.slice Ao23 t644.length co23) ∧ w'.cell? ⟨gb640, 0, none⟩ = some (.slice Ao14 t632.length co14) ∧ w'.cell? ⟨gb640, 1, none⟩ = some (.slice Ao16 t635.length co16) ∧ w'.cell? ⟨gb639, 0, none⟩ = some (.slice Ao10 t626.length co10) ∧ w'.cell? ⟨gb639, 1, none⟩ = some (.slice Ao13 t629.length co13)) (ds := []) #[false, false, false, false, false, false, false, false, false, false, false, false, false] (by kernel_rfl) rfl rfl ⟨(blk_cell BK648.out 0).trans rfl, (blk_cell BK648.out 1).trans rfl, (blk_cell BK640.out 0).trans rfl, (blk_cell BK640.out 1).trans rfl, (blk_cell BK639.out 0).trans rfl, (blk_cell BK639.out 1).trans rfl⟩ (fun hHeld => ?_); refine with_tabW impl_SolveIs.tab8 impl_SolveIs.bits8 (fun HT_ HW_ => ?_)
         generalize wr.drew = w39 at HO_640000 HO_640001 HO_641000 HO_641001 HO_649000 HO_649001 BK639 BK640 BK648 HB hHeld ⊢
         refine pure_ (i := 1) (N := some 35) (v := ?_) (a' := ?_) #[false, true, false, false, false, false, false, false, false, false, false, false, false] rfl rfl (any_of HT_.out (by kernel_rfl)) (fun _ _ _ h => h) (Or.inl ⟨by rfl, ?_⟩) ?_ ?_
         rotate_left
         ·intro w'
          go_simp
          with_reducible rfl
         rotate_left
         ·simp only [Act.put, List.setIfInBounds_toArray, List.set_cons_zero, List.set_cons_succ, i64_w, i32_w]
          rfl
         refine pure_ (i := 4) (N := some 38) (v := ?_) (a' := ?_) #[false, true, false, false, true, false, false, false, false, false, false, false, false] rfl rfl (any_of HT_.out (by kernel_rfl)) (fun _ _ _ h => h) (Or.inl ⟨by rfl, ?_⟩) ?_ ?_
         rotate_left
         ·intro w'
          go_simp
          with_reducible rfl
         rotate_left
         ·simp only [Act.put, List.setIfInBounds_toArray, List.set_cons_zero, List.set_cons_succ, i64_w, i32_w]
          rfl
         refine take_ (i := 0) (N := some 34) (v := ?_) (a' := ?_) #[true, true, false, false, true, false, false, false, false, false, false, false, false] rfl rfl (take_ofW HT_.out HW_.out (by kernel_rfl)) (fun _ _ _ h => h) (Or.inl ⟨by rfl, ?_⟩) hHeld ?_ ?_
         rotate_left
         ·rintro w' ⟨s0, s1, s2, s3, s4, s5⟩
          go_simp
          with_reducible rfl
         rotate_left
         ·simp only [Act.put, List.setIfInBounds_toArray, List.set_cons_zero, List.set_cons_succ, i64_w, i32_w]
          rfl
         refine take_ (i := 3) (N := some 37) (v := ?_) (a' := ?_) #[true, true, false, true, true, false, false, false, false, false, false, false, false] rfl rfl (take_ofW HT_.out HW_.out (by kernel_rfl)) (fun _ _ _ h => h) (Or.inl ⟨by rfl, ?_⟩) hHeld ?_ ?_
         rotate_left
         ·rintro w' ⟨s0, s1, s2, s3, s4, s5⟩
          go_simp
          with_reducible rfl
         rotate_left
         ·simp only [Act.put, List.setIfInBounds_toArray, List.set_cons_zero, List.set_cons_succ, i64_w, i32_w]
          rfl
         refine one_ (i := 2) (N := some 36) #[true, true, true, true, true, false, false, false, false, false, false, false, false] rfl rfl (one_of HT_.out (by kernel_rfl)) (by decide) (fun K hK => ?_)
         refine goes_ Try.func61 (by kernel_rfl) rfl #[.agg #[.slice Ao19 t641.length co19, .slice Ao23 t644.length co23], .int .i64 x31_2] (by rfl) rfl rfl (by (try simp only [List.map_toArray, List.map_cons, List.map_nil]); rfl) ?_
         with_reducible refine (impl_set_has.calls _ _ t641 _ _ t644 x31_2 t649 _ ?side1 ?side2 ?side3 ?side4 A27.out).mono ?_
         (case side1 => repeat (exact (Kd.R_reads' HO_649000.out).2.2))
         (case side2 => exact (Kd.R_reads' HO_649000.out).2.1)
         (case side3 => repeat (exact (Kd.R_reads' HO_649001.out).2.2))
         (case side4 => exact (Kd.R_reads' HO_649001.out).2.1)
         rintro e w40 ⟨rfl, hb⟩
         refine ⟨_, rfl, ?_⟩
         replace HO_640000 := Aside0.mk (Kd.R_below HO_640000.out hb)
         replace HO_640001 := Aside0.mk (Kd.R_below HO_640001.out hb)
         replace HO_641000 := Aside0.mk (Kd.R_below HO_641000.out hb)
         replace HO_641001 := Aside0.mk (Kd.R_below HO_641001.out hb)
         replace HO_649000 := Aside0.mk (Kd.R_below HO_649000.out hb)
         replace HO_649001 := Aside0.mk (Kd.R_below HO_649001.out hb)
         replace BK639 := Aside0.mk (blk_below (g := gb639) (o := .cells #[.slice Ao10 t626.length co10, .slice Ao13 t629.length co13] 60 (0, 0)) BK639.out hb)
         replace BK640 := Aside0.mk (blk_below (g := gb640) (o := .cells #[.slice Ao14 t632.length co14, .slice Ao16 t635.length co16] 60 (0, 0)) BK640.out hb)
         replace BK648 := Aside0.mk (blk_below (g := gb648) (o := .cells #[.slice Ao19 t641.length co19, .slice Ao23 t644.length co23] 60 (0, 0)) BK648.out hb)
         replace HB := Aside0.mk (below_step HB.out hb)
         (try clear hb)
         refine hK.out _ _ ⟨(blk_cell BK648.out 0).trans rfl, (blk_cell BK648.out 1).trans rfl, (blk_cell BK640.out 0).trans rfl, (blk_cell BK640.out 1).trans rfl, (blk_cell BK639.out 0).trans rfl, (blk_cell BK639.out 1).trans rfl⟩ (fun hHeld => ?_)
         clear hK K
         refine norm_ (a' := ?_) ?_ ?_
         rotate_left
         ·show Act.put _ (some 36) _ = _
          simp only [Act.put, List.setIfInBounds_toArray, List.set_cons_zero, List.set_cons_succ, i64_w, i32_w]
          rfl
         refine one_ (i := 5) (N := some 39) #[true, true, true, true, true, true, false, false, false, false, false, false, false] rfl rfl (one_of HT_.out (by kernel_rfl)) (by decide) (fun K hK => ?_)
         refine goes_ Try.func61 (by kernel_rfl) rfl #[.agg #[.slice Ao14 t632.length co14, .slice Ao16 t635.length co16], .int .i64 x31_2] (by rfl) rfl rfl (by (try simp only [List.map_toArray, List.map_cons, List.map_nil]); rfl) ?_
         with_reducible refine (impl_set_has.calls _ _ t632 _ _ t635 x31_2 false _ ?side1 ?side2 ?side3 ?side4 A28.out).mono ?_
         (case side1 => repeat (exact (Kd.R_reads' HO_641000.out).2.2))
         (case side2 => exact (Kd.R_reads' HO_641000.out).2.1)
         (case side3 => repeat (exact (Kd.R_reads' HO_641001.out).2.2))
         (case side4 => exact (Kd.R_reads' HO_641001.out).2.1)
         rintro e w41 ⟨rfl, hb⟩
         refine ⟨_, rfl, ?_⟩
         replace HO_640000 := Aside0.mk (Kd.R_below HO_640000.out hb)
         replace HO_640001 := Aside0.mk (Kd.R_below HO_640001.out hb)
         replace HO_641000 := Aside0.mk (Kd.R_below HO_641000.out hb)
         replace HO_641001 := Aside0.mk (Kd.R_below HO_641001.out hb)
         replace HO_649000 := Aside0.mk (Kd.R_below HO_649000.out hb)
         replace HO_649001 := Aside0.mk (Kd.R_below HO_649001.out hb)
         replace BK639 := Aside0.mk (blk_below (g := gb639) (o := .cells #[.slice Ao10 t626.length co10, .slice Ao13 t629.length co13] 60 (0, 0)) BK639.out hb)
         replace BK640 := Aside0.mk (blk_below (g := gb640) (o := .cells #[.slice Ao14 t632.length co14, .slice Ao16 t635.length co16] 60 (0, 0)) BK640.out hb)
         replace BK648 := Aside0.mk (blk_below (g := gb648) (o := .cells #[.slice Ao19 t641.length co19, .slice Ao23 t644.length co23] 60 (0, 0)) BK648.out hb)
         replace HB := Aside0.mk (below_step HB.out hb)
         (try clear hb)
         refine hK.out _ _ ⟨(blk_cell BK648.out 0).trans rfl, (blk_cell BK648.out 1).trans rfl, (blk_cell BK640.out 0).trans rfl, (blk_cell BK640.out 1).trans rfl, (blk_cell BK639.out 0).trans rfl, (blk_cell BK639.out 1).trans rfl⟩ (fun hHeld => ?_)
         clear hK K
         refine norm_ (a' := ?_) ?_ ?_
         rotate_left
         ·show Act.put _ (some 39) _ = _
          simp only [Act.put, List.setIfInBounds_toArray, List.set_cons_zero, List.set_cons_succ, i64_w, i32_w]
          rfl
         refine pure_ (i := 6) (N := some 40) (v := ?_) (a' := ?_) #[true, true, true, true, true, true, true, false, false, false, false, false, false] rfl rfl (any_of HT_.out (by kernel_rfl)) (fun _ _ _ h => h) (Or.inl ⟨by rfl, ?_⟩) ?_ ?_
         rotate_left
         ·intro w'
          go_simp
          with_reducible rfl
         rotate_left
         ·simp only [Act.put, List.setIfInBounds_toArray, List.set_cons_zero, List.set_cons_succ, i64_w, i32_w]
          rfl
         refine pure_ (i := 9) (N := some 43) (v := ?_) (a' := ?_) #[true, true, true, true, true, true, true, false, false, true, false, false, false] rfl rfl (any_of HT_.out (by kernel_rfl)) (fun _ _ _ h => h) (Or.inl ⟨by rfl, ?_⟩) ?_ ?_
         rotate_left
         ·intro w'
          go_simp
          with_reducible rfl
         rotate_left
         ·simp only [Act.put, List.setIfInBounds_toArray, List.set_cons_zero, List.set_cons_succ, i64_w, i32_w]
          rfl
         refine take_ (i := 7) (N := some 41) (v := ?_) (a' := ?_) #[true, true, true, true, true, true, true, true, false, true, false, false, false] rfl rfl (take_ofW HT_.out HW_.out (by kernel_rfl)) (fun _ _ _ h => h) (Or.inl ⟨by rfl, ?_⟩) hHeld ?_ ?_
         rotate_left
         ·rintro w' ⟨s0, s1, s2, s3, s4, s5⟩
          go_simp
          with_reducible rfl
         rotate_left
         ·simp only [Act.put, List.setIfInBounds_toArray, List.set_cons_zero, List.set_cons_succ, i64_w, i32_w]
          rfl
         refine take_ (i := 8) (N := some 42) (v := ?_) (a' := ?_) #[true, true, true, true, true, true, true, true, true, true, false, false, false] rfl rfl (take_ofW HT_.out HW_.out (by kernel_rfl)) (fun _ _ _ h => h) (Or.inl ⟨by rfl, ?_⟩) hHeld ?_ ?_
         rotate_left
         ·rintro w' ⟨s0, s1, s2, s3, s4, s5⟩
          go_simp
          with_reducible rfl
         rotate_left
         ·simp only [Act.put, List.setIfInBounds_toArray, List.set_cons_zero, List.set_cons_succ, i64_w, i32_w]
          rfl
         refine one_ (i := 10) (N := some 44) #[true, true, true, true, true, true, true, true, true, true, true, false, false] rfl rfl (one_of HT_.out (by kernel_rfl)) (by decide) (fun K hK => ?_)
         refine goes_ Try.func65 (by kernel_rfl) rfl #[.agg #[.slice Ao10 t626.length co10, .slice Ao13 t629.length co13], .agg #[.slice Ao19 t641.length co19, .slice Ao23 t644.length co23], .int .i64 x31_2] (by rfl) rfl rfl (by (try simp only [List.map_toArray, List.map_cons, List.map_nil]); rfl) ?_
         with_reducible refine (impl_sums.calls k2 _ _ t626 _ _ t629 _ _ t641 _ _ t644 x31_2 t651 _ ?side1 ?side2 ?side3 ?side4 ?side5 ?side6 ?side7 ?side8 A37.out).mono ?_
         (case side1 => repeat (exact (Kd.R_reads' HO_640000.out).2.2))
         (case side2 => exact (Kd.R_reads' HO_640000.out).2.1)
         (case side3 => repeat (exact (Kd.R_reads' HO_640001.out).2.2))
         (case side4 => exact (Kd.R_reads' HO_640001.out).2.1)
         (case side5 => repeat (exact (Kd.R_reads' HO_649000.out).2.2))
         (case side6 => exact (Kd.R_reads' HO_649000.out).2.1)
         (case side7 => repeat (exact (Kd.R_reads' HO_649001.out).2.2))
         (case side8 => exact (Kd.R_reads' HO_649001.out).2.1)
         rintro e w42 ⟨rfl, hb⟩
         refine ⟨_, rfl, ?_⟩
         replace HO_640000 := Aside0.mk (Kd.R_below HO_640000.out hb)
         replace HO_640001 := Aside0.mk (Kd.R_below HO_640001.out hb)
         replace HO_641000 := Aside0.mk (Kd.R_below HO_641000.out hb)
         replace HO_641001 := Aside0.mk (Kd.R_below HO_641001.out hb)
         replace HO_649000 := Aside0.mk (Kd.R_below HO_649000.out hb)
         replace HO_649001 := Aside0.mk (Kd.R_below HO_649001.out hb)
         replace BK639 := Aside0.mk (blk_below (g := gb639) (o := .cells #[.slice Ao10 t626.length co10, .slice Ao13 t629.length co13] 60 (0, 0)) BK639.out hb)
         replace BK640 := Aside0.mk (blk_below (g := gb640) (o := .cells #[.slice Ao14 t632.length co14, .slice Ao16 t635.length co16] 60 (0, 0)) BK640.out hb)
         replace BK648 := Aside0.mk (blk_below (g := gb648) (o := .cells #[.slice Ao19 t641.length co19, .slice Ao23 t644.length co23] 60 (0, 0)) BK648.out hb)
         replace HB := Aside0.mk (below_step HB.out hb)
         (try clear hb)
         refine hK.out _ _ ⟨(blk_cell BK648.out 0).trans rfl, (blk_cell BK648.out 1).trans rfl, (blk_cell BK640.out 0).trans rfl, (blk_cell BK640.out 1).trans rfl, (blk_cell BK639.out 0).trans rfl, (blk_cell BK639.out 1).trans rfl⟩ (fun hHeld => ?_)
         clear hK K
         refine norm_ (a' := ?_) ?_ ?_
         rotate_left
         ·show Act.put _ (some 44) _ = _
          simp only [Act.put, List.setIfInBounds_toArray, List.set_cons_zero, List.set_cons_succ, i64_w, i32_w]
          rfl
         refine pure_ (i := 11) (N := some 45) (v := ?_) (a' := ?_) #[true, true, true, true, true, true, true, true, true, true, true, true, false] rfl rfl (any_of HT_.out (by kernel_rfl)) (fun _ _ _ h => h) (Or.inl ⟨by rfl, ?_⟩) ?_ ?_
         rotate_left
         ·intro w'
          go_simp
          with_reducible rfl
         rotate_left
         ·simp only [Act.put, List.setIfInBounds_toArray, List.set_cons_zero, List.set_cons_succ, i64_w, i32_w]
          rfl
         refine pure_ (i := 12) (N := some 46) (v := ?_) (a' := ?_) #[true, true, true, true, true, true, true, true, true, true, true, true, true] rfl rfl (any_of HT_.out (by kernel_rfl)) (fun _ _ _ h => h) (Or.inl ⟨by rfl, ?_⟩) ?_ ?_
         rotate_left
         ·intro w'
          go_simp
          with_reducible rfl
         rotate_left
         ·simp only [Act.put, List.setIfInBounds_toArray, List.set_cons_zero, List.set_cons_succ, i64_w, i32_w]
          rfl
         refine done_ (done_of HT_.out (by kernel_rfl)) ?_
         try go_wp2
         first
         |go_ret
          exact ⟨by first | rfl | (simp [*, errW_none, errW_some] <;> rfl), HB.out⟩
         |go_roundg k2
          case measure => have := HJ5.out; have := HK2.out; omega
          case rel => exact ⟨(wrap64 (x31_2 + 1)), (by rfl), H', ⟨by have := HJ5.out; have := HK2.out; omega⟩, ⟨by exact HO_640000.out⟩, ⟨by exact HO_640001.out⟩, ⟨by exact HO_641000.out⟩, ⟨by exact HO_641001.out⟩, ⟨by exact HO_649000.out⟩, ⟨by exact HO_649001.out⟩, ⟨by exact BK639.out⟩, ⟨by exact BK640.out⟩, ⟨by exact BK648.out⟩, ⟨HB.out⟩⟩
      ·rw [if_neg c26] at H
       have c26b0 : decide (x31_2 < 400) = false := decide_eq_false c26
       clear c26
       obtain rfl := Option.some.inj H
       go_wp2
       go_ret
       exact ⟨by first | rfl | (simp [*, errW_none, errW_some] <;> rfl), HB.out⟩


def spec_l1Signs.l0 : Nat → ByteArray → List Bool → Int → Option (List Bool × Bool)
 | 0, _, _, _ => none
 | k + 1, x0, x4, x5 => if x5 < (x0.size : Int) then (if 0 ≤ x5 then (if (bt x0 x5) = 48 then (if x4.length < 140737488355328 then (spec_l1Signs.l0 k x0 (x4 ++ [((bt x0 x5) == 49)]) (wrap64 (x5 + 1))) else (none)) else (if (bt x0 x5) = 49 then (if x4.length < 140737488355328 then (spec_l1Signs.l0 k x0 (x4 ++ [true]) (wrap64 (x5 + 1))) else (none)) else (some ((([] : List Bool)), false)))) else (none)) else (some (x4, true))
def spec_l1Signs.f (k : Nat) (a0 : ByteArray) : Option (List Bool × Bool) := spec_l1Signs.l0 k a0 (([] : List Bool)) 0
theorem spec_l1Signs.mono_l : ∀ k, (∀ y0 y1 y2, LeO (spec_l1Signs.l0 k y0 y1 y2) (spec_l1Signs.l0 (k + 1) y0 y1 y2))
 | 0 => fun _ _ _ r h => by simp [spec_l1Signs.l0] at h
 | k + 1 => by
  have ih0 := spec_l1Signs.mono_l k
  ·intro y0 y1 y2
   unfold spec_l1Signs.l0
   repeat' first | (with_reducible exact ih0 _ _ _) | (with_reducible exact LeO.refl _) | (with_reducible refine LeO.ite ?_ ?_)
theorem spec_l1Signs.mono : ∀ a0 k, LeO (spec_l1Signs.f k a0) (spec_l1Signs.f (k + 1) a0) := by
 intro a0 k
 have ih0 := spec_l1Signs.mono_l k
 unfold spec_l1Signs.f
 repeat' (with_reducible exact ih0 _ _ _)
set_option maxHeartbeats 8000000 in
set_option maxRecDepth 100000 in
theorem spec_l1Signs.calls (k : Nat) (a0 : ByteArray) (r1 : List Bool) (r2 : Bool) (w : World) (h : spec_l1Signs.f k a0 = some (r1, r2)) :
  Calls Try.prog 115 #[.string a0] w fun e w' => ∃ v0_ : Value, e = .returned (.tuple #[v0_, .bool r2]) ∧ Kd.R Kd.bool 4 w' w.heap.size (fun _ => True) v0_ r1 ∧ Below w.heap.size w w' := by
 have HB := Aside0.mk (Below.refl w.heap.size w)
 have H : (spec_l1Signs.l0 k a0 (([] : List Bool)) 0) = some (r1, r2) := h
 clear h
 obtain ⟨y285, hy285⟩ : ∃ y_ : List Bool, y_ = (([] : List Bool)) := ⟨_, rfl⟩
 replace H : (spec_l1Signs.l0 k a0 y285 0) = some (r1, r2) := by first | (rw [hy285]; with_reducible exact H)
 have Ny285 := Aside0.mk hy285
 clear hy285
 have H' := Aside0.mk H
 clear H
 go_enter Try.func115, Try.ntmps115
 go_wp2_with (first | ((with_reducible refine gate_dst (N := 6) rfl ?_); refine Kd.R_lit Kd.bool _ 4 ?hg (N := 6) ?hd (xs := ([] : List Bool)) (inner := []) (ok := fun _ => True) (okp := fun _ => True) ?hr ?hp (fun _ hk => hk) trivial (Below.refl _ _) (Nat.le_refl _) (by simp) ?_; (case hd => rfl); (case hg => rfl); (case hr => first | (go_simp; done)); (case hp => exact (Reps.none _ _)); intro v286 w2 ho3 hb hg_ hnew_; clear hg_ hnew_; (rw [← Ny285.out] at ho3); have HO287 := Aside0.mk (Kd.R_lower ho3 (below_size HB.out)); replace HB := Aside0.mk (below_step HB.out hb); clear hb ho3))
 go_loopg [4, 5] k (fun kq v4 v5 w' => ∃ (x4_1 : List Bool) (x5_1 : Int), v5 = .int .i64 x5_1 ∧ Aside0 (spec_l1Signs.l0 kq a0 x4_1 x5_1 = some (r1, r2)) ∧ Aside0 (kq ≤ k) ∧ Aside0 (Kd.R Kd.bool 4 w' w.heap.size (fun _ => True) v4 x4_1) ∧ Aside0 (Below w.heap.size w w'))
 case atStart => exact ⟨(y285), (0), (by rfl), H', ⟨Nat.le_refl _⟩, ⟨by exact HO287.out⟩, ⟨HB.out⟩⟩
 case round =>
  clear H'
  obtain ⟨x4_1, x5_1, rfl, HA, HK1, HO_4, HB⟩ := hrel
  cases gk with
  | zero => exact absurd HA.out (by simp [spec_l1Signs.l0])
  | succ k1 =>
   have H := HA.out
   clear HA
   simp only [spec_l1Signs.l0] at H
   by_cases c4 : x5_1 < (a0.size : Int)
   ·rw [if_pos c4] at H
    have c4b0 : decide (x5_1 < (a0.size : Int)) = true := decide_eq_true c4
    clear c4
    by_cases c5 : 0 ≤ x5_1
    ·rw [if_pos c5] at H
     have c5b0 : decide (0 ≤ x5_1) = true := decide_eq_true c5
     clear c5
     by_cases c7 : (bt a0 x5_1) = 48
     ·rw [if_pos c7] at H
      have c7b0 : ((bt a0 x5_1) == 48) = true := beq_iff_eq.mpr c7
      have c7b1 : ((bt a0 x5_1) != 48) = false := bne_eq_false_iff_eq.mpr c7
      clear c7
      by_cases c9 : x4_1.length < 140737488355328
      ·rw [if_pos c9] at H
       have LMc9 := Aside0.mk c9
       clear c9
       obtain ⟨y288, hy288⟩ : ∃ y_ : List Bool, y_ = (x4_1 ++ [((bt a0 x5_1) == 49)]) := ⟨_, rfl⟩
       replace H : (spec_l1Signs.l0 k1 a0 y288 (wrap64 (x5_1 + 1))) = some (r1, r2) := by first | (rw [hy288]; with_reducible exact H)
       have Ny288 := Aside0.mk hy288
       clear hy288
       have H' := Aside0.mk H
       clear H
       have p6 : 0 ≤ (x5_1 : Int) := of_decide_eq_true (by (with_reducible assumption))
       have q6 : x5_1 < (a0.size : Int) := of_decide_eq_true (by (with_reducible assumption))
       have hx6 := bt_at a0 x5_1
       replace p6 := eq_true p6
       replace q6 := eq_true q6
       have p8 : 0 ≤ (x5_1 : Int) := of_decide_eq_true (by (with_reducible assumption))
       have q8 : x5_1 < (a0.size : Int) := of_decide_eq_true (by (with_reducible assumption))
       have hx8 := bt_at a0 x5_1
       replace p8 := eq_true p8
       replace q8 := eq_true q8
       go_wp2_with (first | ((with_reducible refine gate_builtin (b := .append) (xs := #[.tmp 24, .tmp 29]) rfl ?_); at_builtin; refine Kd.R_append Kd.bool (w0 := w) w.heap.size rfl (.tmp 24) (.tmp 29) 58 4 (.bool false) 1 rfl Try.underlying58 info4 rfl (by decide) (by omega) u4 x4_1 ((bt a0 x5_1) == 49) [.bool ((bt a0 x5_1) == 49)] (fun _ => True) (fun _ => False) rfl rfl ?aP (fun _ hk => hk.elim) ?aF ?aO ?aB ?aS ?aL ?_; (case aP => exact rfl); (case aB => exact HB.out); (case aF => exact (fun _ _ => trivial)); (case aO => exact HO_4.out); (case aS => exact (below_size HB.out)); (case aL => have := LMc9.out; omega); intro v289 w10 ho hb hg hat; rw [← Ny288.out] at ho; replace HB := Aside0.mk hb; have HO290 := Aside0.mk ho; clear HO_4; clear ho hb hg hat))
       go_roundg k1
       case measure => have := HK1.out; omega
       case rel => exact ⟨(y288), (wrap64 (x5_1 + 1)), (by rfl), H', ⟨by have := HK1.out; omega⟩, ⟨by exact HO290.out⟩, ⟨HB.out⟩⟩
      ·rw [if_neg c9] at H
       exact absurd H (by simp)
     ·rw [if_neg c7] at H
      have c7b0 : ((bt a0 x5_1) == 48) = false := beq_eq_false_iff_ne.mpr c7
      have c7b1 : ((bt a0 x5_1) != 48) = true := bne_iff_ne.mpr c7
      by_cases c12 : (bt a0 x5_1) = 49
      ·rw [if_pos c12] at H
       have c12b0 : ((bt a0 x5_1) == 49) = true := beq_iff_eq.mpr c12
       have c12b1 : ((bt a0 x5_1) != 49) = false := bne_eq_false_iff_eq.mpr c12
       clear c12
       by_cases c14 : x4_1.length < 140737488355328
       ·rw [if_pos c14] at H
        have LMc14 := Aside0.mk c14
        clear c14
        obtain ⟨y291, hy291⟩ : ∃ y_ : List Bool, y_ = (x4_1 ++ [true]) := ⟨_, rfl⟩
        replace H : (spec_l1Signs.l0 k1 a0 y291 (wrap64 (x5_1 + 1))) = some (r1, r2) := by first | (rw [hy291]; with_reducible exact H)
        have Ny291 := Aside0.mk hy291
        clear hy291
        have H' := Aside0.mk H
        clear H
        have p6 : 0 ≤ (x5_1 : Int) := of_decide_eq_true (by (with_reducible assumption))
        have q6 : x5_1 < (a0.size : Int) := of_decide_eq_true (by (with_reducible assumption))
        have hx6 := bt_at a0 x5_1
        replace p6 := eq_true p6
        replace q6 := eq_true q6
        have p11 : 0 ≤ (x5_1 : Int) := of_decide_eq_true (by (with_reducible assumption))
        have q11 : x5_1 < (a0.size : Int) := of_decide_eq_true (by (with_reducible assumption))
        have hx11 := bt_at a0 x5_1
        replace p11 := eq_true p11
        replace q11 := eq_true q11
        have p13 : 0 ≤ (x5_1 : Int) := of_decide_eq_true (by (with_reducible assumption))
        have q13 : x5_1 < (a0.size : Int) := of_decide_eq_true (by (with_reducible assumption))
        have hx13 := bt_at a0 x5_1
        replace p13 := eq_true p13
        replace q13 := eq_true q13
        go_wp2_with (first | ((with_reducible refine gate_builtin (b := .append) (xs := #[.tmp 24, .tmp 29]) rfl ?_); at_builtin; refine Kd.R_append Kd.bool (w0 := w) w.heap.size rfl (.tmp 24) (.tmp 29) 58 4 (.bool false) 1 rfl Try.underlying58 info4 rfl (by decide) (by omega) u4 x4_1 true [.bool true] (fun _ => True) (fun _ => False) rfl rfl ?aP (fun _ hk => hk.elim) ?aF ?aO ?aB ?aS ?aL ?_; (case aP => exact rfl); (case aB => exact HB.out); (case aF => exact (fun _ _ => trivial)); (case aO => exact HO_4.out); (case aS => exact (below_size HB.out)); (case aL => have := LMc14.out; omega); intro v292 w15 ho hb hg hat; rw [← Ny291.out] at ho; replace HB := Aside0.mk hb; have HO293 := Aside0.mk ho; clear HO_4; clear ho hb hg hat))
        go_roundg k1
        case measure => have := HK1.out; omega
        case rel => exact ⟨(y291), (wrap64 (x5_1 + 1)), (by rfl), H', ⟨by have := HK1.out; omega⟩, ⟨by exact HO293.out⟩, ⟨HB.out⟩⟩
       ·rw [if_neg c14] at H
        exact absurd H (by simp)
      ·rw [if_neg c12] at H
       have c12b0 : ((bt a0 x5_1) == 49) = false := beq_eq_false_iff_ne.mpr c12
       have c12b1 : ((bt a0 x5_1) != 49) = true := bne_iff_ne.mpr c12
       obtain ⟨y294, hy294⟩ : ∃ y_ : List Bool, y_ = (([] : List Bool)) := ⟨_, rfl⟩
       replace H : (some (y294, false)) = some (r1, r2) := by first | (rw [hy294]; with_reducible exact H)
       have Ny294 := Aside0.mk hy294
       clear hy294
       simp only [Option.some.injEq, Prod.mk.injEq] at H
       obtain ⟨rfl, rfl⟩ := H
       have p6 : 0 ≤ (x5_1 : Int) := of_decide_eq_true (by (with_reducible assumption))
       have q6 : x5_1 < (a0.size : Int) := of_decide_eq_true (by (with_reducible assumption))
       have hx6 := bt_at a0 x5_1
       replace p6 := eq_true p6
       replace q6 := eq_true q6
       have p11 : 0 ≤ (x5_1 : Int) := of_decide_eq_true (by (with_reducible assumption))
       have q11 : x5_1 < (a0.size : Int) := of_decide_eq_true (by (with_reducible assumption))
       have hx11 := bt_at a0 x5_1
       replace p11 := eq_true p11
       replace q11 := eq_true q11
       go_wp2_with (first | ((with_reducible refine gate_dst (N := 23) rfl ?_); refine Kd.R_lit Kd.bool _ 4 ?hg (N := 23) ?hd (xs := ([] : List Bool)) (inner := []) (ok := fun _ => True) (okp := fun _ => True) ?hr ?hp (fun _ hk => hk) trivial (Below.refl _ _) (Nat.le_refl _) (by simp) ?_; (case hd => rfl); (case hg => rfl); (case hr => first | (go_simp; done)); (case hp => exact (Reps.none _ _)); intro v295 w16 ho17 hb hg_ hnew_; clear hg_ hnew_; (rw [← Ny294.out] at ho17); have HO296 := Aside0.mk (Kd.R_lower (Kd.R_new' ho17 (Kd.R_lt HO_4.out)) (below_size HB.out)); replace HO_4 := Aside0.mk (Kd.R_elder' HO_4.out (Kd.R_base ho17) hb); replace HB := Aside0.mk (below_step HB.out hb); clear hb ho17))
       go_ret2
       exact ⟨_, by first | rfl | (simp [*, errW_none, errW_some] <;> rfl), by exact Kd.R_mono HO296.out (fun _ hk => trivial), HB.out⟩
    ·rw [if_neg c5] at H
     exact absurd H (by simp)
   ·rw [if_neg c4] at H
    have c4b0 : decide (x5_1 < (a0.size : Int)) = false := decide_eq_false c4
    clear c4
    simp only [Option.some.injEq, Prod.mk.injEq] at H
    obtain ⟨rfl, rfl⟩ := H
    go_wp2
    go_ret2
    exact ⟨_, by first | rfl | (simp [*, errW_none, errW_some] <;> rfl), by exact HO_4.out, HB.out⟩


mutual
def spec_l1Read.j1 : Nat → ByteArray → Int → List Bool → List Bool → Option (List Bool × List Bool × Bool)
 | 0, _, _, _, _ => none
 | k + 1, x0, x5, x305000, x305001 => if (wrap64 (x5 + 2)) ≥ (x0.size : Int) then (spec_l1Read.j2 k x0 x5 true x305000 x305001) else (if 0 ≤ (wrap64 ((x0.size : Int) - 1)) then (if (wrap64 ((x0.size : Int) - 1)) < (x0.size : Int) then (spec_l1Read.j2 k x0 x5 ((bt x0 (wrap64 ((x0.size : Int) - 1))) != 41) x305000 x305001) else (none)) else (none))
def spec_l1Read.j2 : Nat → ByteArray → Int → Bool → List Bool → List Bool → Option (List Bool × List Bool × Bool)
 | 0, _, _, _, _, _ => none
 | k + 1, x0, x5, x37, x305000, x305001 => if x37 = true then (some (x305000, x305001, false)) else (if 0 ≤ x5 then (if x5 ≤ (x0.size : Int) then ((spec_l1Signs.f k (x0.extract 0 (x5 : Int).toNat)).bind fun bt305 => (if 0 ≤ (wrap64 (x5 + 1)) then (if (wrap64 (x5 + 1)) ≤ (wrap64 ((x0.size : Int) - 1)) then (if (wrap64 ((x0.size : Int) - 1)) ≤ (x0.size : Int) then ((spec_l1Signs.f k (x0.extract ((wrap64 (x5 + 1)) : Int).toNat ((wrap64 ((x0.size : Int) - 1)) : Int).toNat)).bind fun bt309 => (if bt305.2 = true then (if bt309.2 = true then (if (bt305.1.length : Int) > 60 then (some (x305000, x305001, false)) else (if (bt309.1.length : Int) > 60 then (some (x305000, x305001, false)) else (some (bt305.1, bt309.1, true)))) else (some (x305000, x305001, false))) else (some (x305000, x305001, false)))) else (none)) else (none)) else (none))) else (none)) else (none))
def spec_l1Read.l0 : Nat → ByteArray → Int → List Bool → List Bool → Option (List Bool × List Bool × Bool)
 | 0, _, _, _, _ => none
 | k + 1, x0, x5, x305000, x305001 => if x5 < (x0.size : Int) then (if 0 ≤ x5 then (if (bt x0 x5) = 40 then (spec_l1Read.j1 k x0 x5 x305000 x305001) else (spec_l1Read.l0 k x0 (wrap64 (x5 + 1)) x305000 x305001)) else (none)) else (spec_l1Read.j1 k x0 x5 x305000 x305001)
end
def spec_l1Read.f (k : Nat) (a0 : ByteArray) : Option (List Bool × List Bool × Bool) := spec_l1Read.l0 k a0 0 (([] : List Bool)) (([false] : List Bool))
theorem spec_l1Read.mono_l : ∀ k, (∀ y0 y1 y2 y3, LeO (spec_l1Read.j1 k y0 y1 y2 y3) (spec_l1Read.j1 (k + 1) y0 y1 y2 y3)) ∧ (∀ y0 y1 y2 y3 y4, LeO (spec_l1Read.j2 k y0 y1 y2 y3 y4) (spec_l1Read.j2 (k + 1) y0 y1 y2 y3 y4)) ∧ (∀ y0 y1 y2 y3, LeO (spec_l1Read.l0 k y0 y1 y2 y3) (spec_l1Read.l0 (k + 1) y0 y1 y2 y3))
 | 0 => ⟨fun _ _ _ _ r h => by simp [spec_l1Read.j1] at h, fun _ _ _ _ _ r h => by simp [spec_l1Read.j2] at h, fun _ _ _ _ r h => by simp [spec_l1Read.l0] at h⟩
 | k + 1 => by
  obtain ⟨ih0, ih1, ih2⟩ := spec_l1Read.mono_l k
  refine ⟨?_, ?_, ?_⟩
  ·intro y0 y1 y2 y3
   unfold spec_l1Read.j1
   repeat' first | (with_reducible exact ih1 _ _ _ _ _) | (with_reducible exact LeO.refl _) | (with_reducible refine LeO.ite ?_ ?_)
  ·intro y0 y1 y2 y3 y4
   unfold spec_l1Read.j2
   repeat' first | (with_reducible exact spec_l1Signs.mono _ _) | (with_reducible exact LeO.refl _) | (with_reducible refine LeO.ite ?_ ?_) | (with_reducible refine LeO.bind ?_ (fun _ => ?_))
  ·intro y0 y1 y2 y3
   unfold spec_l1Read.l0
   repeat' first | (with_reducible exact ih0 _ _ _ _) | (with_reducible exact ih2 _ _ _ _) | (with_reducible exact LeO.refl _) | (with_reducible refine LeO.ite ?_ ?_)
theorem spec_l1Read.mono : ∀ a0 k, LeO (spec_l1Read.f k a0) (spec_l1Read.f (k + 1) a0) := by
 intro a0 k
 obtain ⟨ih0, ih1, ih2⟩ := spec_l1Read.mono_l k
 unfold spec_l1Read.f
 repeat' (with_reducible exact ih2 _ _ _ _)
set_option maxHeartbeats 8000000 in
set_option maxRecDepth 100000 in
theorem spec_l1Read.calls (k : Nat) (a0 : ByteArray) (r1 : List Bool) (r2 : List Bool) (r3 : Bool) (w : World) (h : spec_l1Read.f k a0 = some (r1, r2, r3)) :
  Calls Try.prog 89 #[.string a0] w fun e w' => ∃ v0_ v1_ : Value, e = .returned (.tuple #[.agg #[v0_, v1_], .bool r3]) ∧ Kd.R Kd.bool 4 w' w.heap.size (fun k_ => some k_ ≠ (v1_ : Value).ownBlock) v0_ r1 ∧ Kd.R Kd.bool 4 w' w.heap.size (fun k_ => some k_ ≠ (v0_ : Value).ownBlock) v1_ r2 ∧ Below w.heap.size w w' := by
 have hu66 := Try.underlying66
 have HB := Aside0.mk (Below.refl w.heap.size w)
 have H : (spec_l1Read.l0 k a0 0 (([] : List Bool)) (([false] : List Bool))) = some (r1, r2, r3) := h
 clear h
 obtain ⟨y298, hy298⟩ : ∃ y_ : List Bool, y_ = (([] : List Bool)) := ⟨_, rfl⟩
 replace H : (spec_l1Read.l0 k a0 0 y298 (([false] : List Bool))) = some (r1, r2, r3) := by first | (rw [hy298]; with_reducible exact H)
 have Ny298 := Aside0.mk hy298
 clear hy298
 obtain ⟨y301, hy301⟩ : ∃ y_ : List Bool, y_ = (([false] : List Bool)) := ⟨_, rfl⟩
 replace H : (spec_l1Read.l0 k a0 0 y298 y301) = some (r1, r2, r3) := by first | (rw [hy301]; with_reducible exact H)
 have Ny301 := Aside0.mk hy301
 clear hy301
 have HC2 := Aside0.mk H
 clear H
 go_enter Try.func89, Try.ntmps89
 go_upto_block 0 with (first | ((with_reducible refine gate_dst (N := 2) rfl ?_); (try (refine gate_guard (by rfl) ?_; dsimp only)); refine box_event ?hg (N := 2) ?hd (cs := #[.slice none 0 0, .slice none 0 0]) (t := 66) ?hr ?_; (case hd => rfl); (case hg => rfl); (case hr => first | (go_simp; done)); intro gb297 hg w3 hbox hb; have BK297 := Aside0.mk hbox; have GW297 := Aside0.mk ((by rw [hg]; exact (below_size HB.out) : w.heap.size ≤ gb297)); have GE297 := Aside0.mk ((by rw [hg]; exact (below_size HB.out) : w.heap.size ≤ gb297)); replace HB := Aside0.mk (below_step HB.out hb); clear hb hbox hg) | ((with_reducible refine gate_dst (N := 10) rfl ?_); (try (refine gate_guard (by rfl) ?_; dsimp only)); refine Kd.R_lit Kd.bool _ 4 ?hg (N := 10) ?hd (xs := ([] : List Bool)) (inner := []) (ok := fun _ => True) (okp := fun _ => True) ?hr ?hp (fun _ hk => hk) trivial (Below.refl _ _) (Nat.le_refl _) (by simp) ?_; (case hd => rfl); (case hg => rfl); (case hr => first | (go_simp; done)); (case hp => exact (Reps.none _ _)); intro v299 w4 ho5 hb hg_ hnew_; clear hg_ hnew_; (rw [← Ny298.out] at ho5); have HO300 := Aside0.mk (Kd.R_lower ho5 (below_size HB.out)); replace BK297 := Aside0.mk (blk_below (g := gb297) (o := .cells #[.slice none 0 0, .slice none 0 0] 66 (0, 0)) BK297.out hb); replace HB := Aside0.mk (below_step HB.out hb); clear hb ho5) | ((with_reducible refine gate_dst (N := 11) rfl ?_); (try (refine gate_guard (by rfl) ?_; dsimp only)); refine Kd.R_lit Kd.bool _ 4 ?hg (N := 11) ?hd (xs := ([false] : List Bool)) (inner := [.bool false]) (ok := fun _ => True) (okp := fun _ => True) ?hr ?hp (fun _ hk => hk) trivial (Below.refl _ _) (Nat.le_refl _) (by simp) ?_; (case hd => rfl); (case hg => rfl); (case hr => first | (go_simp; done)); (case hp => exact (Reps.one (show Kd.M Kd.bool _ _ _ false [.bool false] from rfl) (Reps.none _ _))); intro v302 w6 ho7 hb hg_ hnew_; clear hg_ hnew_; (rw [← Ny301.out] at ho7); have HO303 := Aside0.mk (Kd.R_lower (Kd.R_new' ho7 (Kd.R_lt HO300.out)) (below_size HB.out)); replace HO300 := Aside0.mk (Kd.R_elder' HO300.out (Kd.R_base ho7) hb); replace BK297 := Aside0.mk (blk_below (g := gb297) (o := .cells #[.slice none 0 0, .slice none 0 0] 66 (0, 0)) BK297.out hb); replace HB := Aside0.mk (below_step HB.out hb); clear hb ho7; obtain ⟨Ao8, co8, eo8⟩ := Kd.R_slice HO303.out; subst eo8; obtain ⟨Ao9, co9, eo9⟩ := Kd.R_slice HO300.out; subst eo9) | ((with_reducible refine gate_dst (N := 4) rfl ?_); (try (refine gate_guard (by rfl) ?_; dsimp only)); refine box_event ?hg (N := 4) ?hd (cs := #[.slice none 0 0, .slice none 0 0]) (t := 66) ?hr ?_; (case hd => rfl); (case hg => rfl); (case hr => first | (go_simp; done)); intro gb304 hg w10 hbox hb; replace HO300 := Aside0.mk (Kd.R_below HO300.out hb); replace HO303 := Aside0.mk (Kd.R_below HO303.out hb); have BK304 := Aside0.mk hbox; have GW304 := Aside0.mk ((by rw [hg]; exact (below_size HB.out) : w.heap.size ≤ gb304)); have GE304 := Aside0.mk ((by rw [hg]; exact (below_size HB.out) : w.heap.size ≤ gb304)); replace HB := Aside0.mk (below_step HB.out hb); have NB297_304 := Aside0.mk ((by rw [hg]; exact Nat.ne_of_lt (blk_lt (g := gb297) (o := .cells #[.slice none 0 0, .slice none 0 0] 66 (0, 0)) BK297.out) : gb297 ≠ gb304)); have NB304_297 := Aside0.mk ((by rw [hg]; exact Nat.ne_of_gt (blk_lt (g := gb297) (o := .cells #[.slice none 0 0, .slice none 0 0] 66 (0, 0)) BK297.out) : gb304 ≠ gb297)); replace BK297 := Aside0.mk (blk_below (g := gb297) (o := .cells #[.slice none 0 0, .slice none 0 0] 66 (0, 0)) BK297.out hb); clear hb hbox hg; have hnb11 := NB304_297.out; have hnc11 := NB297_304.out; have hcz12_0 : w10.cell? ⟨gb304, 0, none⟩ = some (.slice none 0 0) := (blk_cell BK304.out 0).trans rfl; have hcz12_1 : w10.cell? ⟨gb304, 1, none⟩ = some (.slice none 0 0) := (blk_cell BK304.out 1).trans rfl; have hfz12_0 := blk_frozen BK304.out 0; have hfz12_1 := blk_frozen BK304.out 1))
 go_cut [5] (fun v5 wc => ∃ (kq : Nat) (x5_1 : Int), v5 = .int .i64 x5_1 ∧ Aside0 (spec_l1Read.j1 kq a0 x5_1 y298 y301 = some (r1, r2, r3)) ∧ Aside0 (kq ≤ k) ∧ Aside0 (Kd.R Kd.bool 4 wc w.heap.size (fun k_ => some k_ ≠ ((.slice Ao8 y301.length co8) : Value).ownBlock) (.slice Ao9 y298.length co9) y298) ∧ Aside0 (Kd.R Kd.bool 4 wc w.heap.size (fun k_ => some k_ ≠ ((.slice Ao9 y298.length co9) : Value).ownBlock) (.slice Ao8 y301.length co8) y301) ∧ Aside0 (wc.heap[gb297]? = some (.cells #[(.slice none 0 0), (.slice none 0 0)] 66 (0, 0))) ∧ Aside0 (wc.heap[gb304]? = some (.cells #[(.slice Ao9 y298.length co9), (.slice Ao8 y301.length co8)] 66 (0, 0))) ∧ Aside0 (Below w.heap.size w wc))
 case first =>
  have H := HC2.out
  clear HC2
  have H' := Aside0.mk H
  clear H
  go_wp2
  go_loopg [5] k (fun kq v5 w' => ∃ (x5_1 : Int), v5 = .int .i64 x5_1 ∧ Aside0 (spec_l1Read.l0 kq a0 x5_1 y298 y301 = some (r1, r2, r3)) ∧ Aside0 (kq ≤ k) ∧ Aside0 (Kd.R Kd.bool 4 w' w.heap.size (fun k_ => some k_ ≠ ((.slice Ao8 y301.length co8) : Value).ownBlock) (.slice Ao9 y298.length co9) y298) ∧ Aside0 (Kd.R Kd.bool 4 w' w.heap.size (fun k_ => some k_ ≠ ((.slice Ao9 y298.length co9) : Value).ownBlock) (.slice Ao8 y301.length co8) y301) ∧ Aside0 (w'.heap[gb297]? = some (.cells #[(.slice none 0 0), (.slice none 0 0)] 66 (0, 0))) ∧ Aside0 (w'.heap[gb304]? = some (.cells #[(.slice Ao9 y298.length co9), (.slice Ao8 y301.length co8)] 66 (0, 0))) ∧ Aside0 (Below w.heap.size w w'))
  case atStart => exact ⟨(0), (by rfl), H', ⟨Nat.le_refl _⟩, ⟨by exact Kd.R_mono (Kd.R_far (p := ⟨gb304, 1, none⟩) (Kd.R_far (p := ⟨gb304, 0, none⟩) (Kd.R_types HO300.out BK304.out (by decide)) (fun _ hk => hk.2) (.slice Ao9 y298.length co9)) (fun _ hk => hk.2) (.slice Ao8 y301.length co8)) (fun _ hk => hk.1.2)⟩, ⟨by exact Kd.R_mono (Kd.R_far (p := ⟨gb304, 1, none⟩) (Kd.R_far (p := ⟨gb304, 0, none⟩) (Kd.R_types HO303.out BK304.out (by decide)) (fun _ hk => hk.2) (.slice Ao9 y298.length co9)) (fun _ hk => hk.2) (.slice Ao8 y301.length co8)) (fun _ hk => hk.1.2)⟩, ⟨by refine blk_far ?_ NB297_304.out _; refine blk_far ?_ NB297_304.out _; exact BK297.out⟩, ⟨by refine blk_put (cs := #[.slice Ao9 y298.length co9, .slice none 0 0]) ?_ 1 _ rfl; refine blk_put (cs := #[.slice none 0 0, .slice none 0 0]) ?_ 0 _ rfl; exact BK304.out⟩, ⟨by repeat (first | (with_reducible first | exact HB.out | refine below_set ?_ GE304.out))⟩⟩
  case round =>
   clear H'
   try clear hcz12_0
   try clear hcz12_1
   try clear hfz12_0
   try clear hfz12_1
   obtain ⟨x5_1, rfl, HA, HK1, HO_305000, HO_305001, BK297, BK304, HB⟩ := hrel
   cases gk with
   | zero => exact absurd HA.out (by simp [spec_l1Read.l0])
   | succ k1 =>
    have H := HA.out
    clear HA
    simp only [spec_l1Read.l0] at H
    by_cases c13 : x5_1 < (a0.size : Int)
    ·rw [if_pos c13] at H
     have c13b0 : decide (x5_1 < (a0.size : Int)) = true := decide_eq_true c13
     clear c13
     by_cases c14 : 0 ≤ x5_1
     ·rw [if_pos c14] at H
      have c14b0 : decide (0 ≤ x5_1) = true := decide_eq_true c14
      clear c14
      by_cases c16 : (bt a0 x5_1) = 40
      ·rw [if_pos c16] at H
       have c16b0 : ((bt a0 x5_1) == 40) = true := beq_iff_eq.mpr c16
       have c16b1 : ((bt a0 x5_1) != 40) = false := bne_eq_false_iff_eq.mpr c16
       clear c16
       have H' := Aside0.mk H
       clear H
       have p15 : 0 ≤ (x5_1 : Int) := of_decide_eq_true (by (with_reducible assumption))
       have q15 : x5_1 < (a0.size : Int) := of_decide_eq_true (by (with_reducible assumption))
       have hx15 := bt_at a0 x5_1
       replace p15 := eq_true p15
       replace q15 := eq_true q15
       go_wp2
       go_meet
       case rel => exact ⟨_, (x5_1), (by rfl), H', ⟨by have := HK1.out; omega⟩, ⟨by exact HO_305000.out⟩, ⟨by exact HO_305001.out⟩, ⟨by exact BK297.out⟩, ⟨by exact BK304.out⟩, ⟨HB.out⟩⟩
      ·rw [if_neg c16] at H
       have c16b0 : ((bt a0 x5_1) == 40) = false := beq_eq_false_iff_ne.mpr c16
       have c16b1 : ((bt a0 x5_1) != 40) = true := bne_iff_ne.mpr c16
       have H' := Aside0.mk H
       clear H
       have p15 : 0 ≤ (x5_1 : Int) := of_decide_eq_true (by (with_reducible assumption))
       have q15 : x5_1 < (a0.size : Int) := of_decide_eq_true (by (with_reducible assumption))
       have hx15 := bt_at a0 x5_1
       replace p15 := eq_true p15
       replace q15 := eq_true q15
       go_wp2
       go_roundg k1
       case measure => have := HK1.out; omega
       case rel => exact ⟨(wrap64 (x5_1 + 1)), (by rfl), H', ⟨by have := HK1.out; omega⟩, ⟨by exact HO_305000.out⟩, ⟨by exact HO_305001.out⟩, ⟨by exact BK297.out⟩, ⟨by exact BK304.out⟩, ⟨HB.out⟩⟩
     ·rw [if_neg c14] at H
      exact absurd H (by simp)
    ·rw [if_neg c13] at H
     have c13b0 : decide (x5_1 < (a0.size : Int)) = false := decide_eq_false c13
     clear c13
     have H' := Aside0.mk H
     clear H
     go_wp2
     go_meet
     case rel => exact ⟨_, (x5_1), (by rfl), H', ⟨by have := HK1.out; omega⟩, ⟨by exact HO_305000.out⟩, ⟨by exact HO_305001.out⟩, ⟨by exact BK297.out⟩, ⟨by exact BK304.out⟩, ⟨HB.out⟩⟩
 case rest =>
  clear HC2
  try clear hcz12_0
  try clear hcz12_1
  try clear hfz12_0
  try clear hfz12_1
  obtain ⟨kq, x5_1, rfl, HA, HJ1, HO_305000, HO_305001, BK297, BK304, HB⟩ := hcut
  cases kq with
  | zero => exact absurd HA.out (by simp [spec_l1Read.j1])
  | succ kj1 =>
   have H := HA.out
   clear HA
   simp only [spec_l1Read.j1] at H
   have HC17 := Aside0.mk H
   clear H
   go_upto_region 5 with (fail)
   go_cut [37] (fun v37 wc => ∃ (kq : Nat) (x37_16 : Bool), v37 = .bool x37_16 ∧ Aside0 (spec_l1Read.j2 kq a0 x5_1 x37_16 y298 y301 = some (r1, r2, r3)) ∧ Aside0 (kq ≤ kj1) ∧ Aside0 (Kd.R Kd.bool 4 wc w.heap.size (fun k_ => some k_ ≠ ((.slice Ao8 y301.length co8) : Value).ownBlock) (.slice Ao9 y298.length co9) y298) ∧ Aside0 (Kd.R Kd.bool 4 wc w.heap.size (fun k_ => some k_ ≠ ((.slice Ao9 y298.length co9) : Value).ownBlock) (.slice Ao8 y301.length co8) y301) ∧ Aside0 (wc.heap[gb297]? = some (.cells #[(.slice none 0 0), (.slice none 0 0)] 66 (0, 0))) ∧ Aside0 (wc.heap[gb304]? = some (.cells #[(.slice Ao9 y298.length co9), (.slice Ao8 y301.length co8)] 66 (0, 0))) ∧ Aside0 (Below w.heap.size w wc))
   case first =>
    have H := HC17.out
    clear HC17
    by_cases c18 : (wrap64 (x5_1 + 2)) ≥ (a0.size : Int)
    ·rw [if_pos c18] at H
     have c18b0 : decide ((a0.size : Int) ≤ (wrap64 (x5_1 + 2))) = true := decide_eq_true c18
     clear c18
     have H' := Aside0.mk H
     clear H
     go_wp2
     go_meet
     case rel => exact ⟨_, (true), (by rfl), H', ⟨by have := HJ1.out; omega⟩, ⟨by exact HO_305000.out⟩, ⟨by exact HO_305001.out⟩, ⟨by exact BK297.out⟩, ⟨by exact BK304.out⟩, ⟨HB.out⟩⟩
    ·rw [if_neg c18] at H
     have c18b0 : decide ((a0.size : Int) ≤ (wrap64 (x5_1 + 2))) = false := decide_eq_false c18
     clear c18
     obtain ⟨ji19, hji19⟩ : ∃ j_ : Int, (wrap64 ((a0.size : Int) - 1)) = j_ := ⟨_, rfl⟩
     replace H : (if 0 ≤ (ji19) then (if (ji19) < (a0.size : Int) then (spec_l1Read.j2 kj1 a0 x5_1 ((bt a0 (ji19)) != 41) y298 y301) else (none)) else (none)) = some (r1, r2, r3) := by first | (rw [hji19] at H; exact H)
     have hji19w : (IntKind.i64.wrap ((a0.size : Int) - 1)) = ji19 := (i64_w _).trans hji19
     by_cases c20 : 0 ≤ (ji19)
     ·rw [if_pos c20] at H
      have c20b0 : decide (0 ≤ (ji19)) = true := decide_eq_true c20
      clear c20
      by_cases c21 : (ji19) < (a0.size : Int)
      ·rw [if_pos c21] at H
       have c21b0 : decide ((ji19) < (a0.size : Int)) = true := decide_eq_true c21
       clear c21
       have H' := Aside0.mk H
       clear H
       have p22 : 0 ≤ ((ji19) : Int) := of_decide_eq_true (by (with_reducible assumption))
       have q22 : (ji19) < (a0.size : Int) := of_decide_eq_true (by (with_reducible assumption))
       have hx22 := bt_at a0 (ji19)
       replace p22 := eq_true p22
       replace q22 := eq_true q22
       go_wp2
       go_meet
       case rel => exact ⟨_, (((bt a0 (ji19)) != 41)), (by rfl), H', ⟨by have := HJ1.out; omega⟩, ⟨by exact HO_305000.out⟩, ⟨by exact HO_305001.out⟩, ⟨by exact BK297.out⟩, ⟨by exact BK304.out⟩, ⟨HB.out⟩⟩
      ·rw [if_neg c21] at H
       exact absurd H (by simp)
     ·rw [if_neg c20] at H
      exact absurd H (by simp)
   case rest =>
    clear HC17
    obtain ⟨kq, x37_16, rfl, HA, HJ16, HO_305000, HO_305001, BK297, BK304, HB⟩ := hcut
    cases kq with
    | zero => exact absurd HA.out (by simp [spec_l1Read.j2])
    | succ kj16 =>
     have H := HA.out
     clear HA
     simp only [spec_l1Read.j2] at H
     by_cases c23 : x37_16 = true
     ·subst c23
      replace H : (some (y298, y301, false)) = some (r1, r2, r3) := by rw [if_pos rfl] at H; exact H
      simp only [Option.some.injEq, Prod.mk.injEq] at H
      obtain ⟨rfl, rfl, rfl⟩ := H
      have hnb24 := NB304_297.out
      have hnc24 := NB297_304.out
      have hcz25_0 : wc.cell? ⟨gb304, 0, none⟩ = some (.slice Ao9 y298.length co9) := (blk_cell BK304.out 0).trans rfl
      have hcz25_1 : wc.cell? ⟨gb304, 1, none⟩ = some (.slice Ao8 y301.length co8) := (blk_cell BK304.out 1).trans rfl
      have hfz25_0 := blk_frozen BK304.out 0
      have hfz25_1 := blk_frozen BK304.out 1
      have hcz26_0 : wc.cell? ⟨gb297, 0, none⟩ = some (.slice none 0 0) := (blk_cell BK297.out 0).trans rfl
      have hcz26_1 : wc.cell? ⟨gb297, 1, none⟩ = some (.slice none 0 0) := (blk_cell BK297.out 1).trans rfl
      have hfz26_0 := blk_frozen BK297.out 0
      have hfz26_1 := blk_frozen BK297.out 1
      go_wp2
      refine bodyPost_ret (results_ct rfl _ _ gb297 66 #[.slice Ao9 y298.length co9, .slice Ao8 y301.length co8] (0, 0) _ rfl (by refine blk_put (cs := #[.slice Ao9 y298.length co9, .slice none 0 0]) ?_ 1 _ rfl; refine blk_put (cs := #[.slice none 0 0, .slice none 0 0]) ?_ 0 _ rfl; exact BK297.out) Try.underlying66 rfl (by kernel_rfl)) rfl ?_
      exact ⟨_, _, by first | rfl | (simp [*, errW_none, errW_some] <;> rfl), by exact Kd.R_mono (Kd.R_far (p := ⟨gb297, 1, none⟩) (Kd.R_far (p := ⟨gb297, 0, none⟩) (Kd.R_types HO_305000.out BK297.out (by decide)) (fun _ hk => hk.2) (.slice Ao9 y298.length co9)) (fun _ hk => hk.2) (.slice Ao8 y301.length co8)) (fun _ hk => hk.1), by exact Kd.R_mono (Kd.R_far (p := ⟨gb297, 1, none⟩) (Kd.R_far (p := ⟨gb297, 0, none⟩) (Kd.R_types HO_305001.out BK297.out (by decide)) (fun _ hk => hk.2) (.slice Ao9 y298.length co9)) (fun _ hk => hk.2) (.slice Ao8 y301.length co8)) (fun _ hk => hk.1), by repeat (first | (with_reducible first | exact HB.out | refine below_set ?_ GE297.out))⟩
     ·replace c23 := Bool.eq_false_iff.mpr c23
      subst c23
      replace H : (if 0 ≤ x5_1 then (if x5_1 ≤ (a0.size : Int) then ((spec_l1Signs.f kj16 (a0.extract 0 (x5_1 : Int).toNat)).bind fun bt305 => (if 0 ≤ (wrap64 (x5_1 + 1)) then (if (wrap64 (x5_1 + 1)) ≤ (wrap64 ((a0.size : Int) - 1)) then (if (wrap64 ((a0.size : Int) - 1)) ≤ (a0.size : Int) then ((spec_l1Signs.f kj16 (a0.extract ((wrap64 (x5_1 + 1)) : Int).toNat ((wrap64 ((a0.size : Int) - 1)) : Int).toNat)).bind fun bt309 => (if bt305.2 = true then (if bt309.2 = true then (if (bt305.1.length : Int) > 60 then (some (y298, y301, false)) else (if (bt309.1.length : Int) > 60 then (some (y298, y301, false)) else (some (bt305.1, bt309.1, true)))) else (some (y298, y301, false))) else (some (y298, y301, false)))) else (none)) else (none)) else (none))) else (none)) else (none)) = some (r1, r2, r3) := by rw [if_neg (show ¬ (false = true) by decide)] at H; exact H
      by_cases c27 : 0 ≤ x5_1
      ·rw [if_pos c27] at H
       have c27b0 := eq_true c27
       have c27b1 : decide (0 ≤ x5_1) = true := decide_eq_true c27
       clear c27
       by_cases c28 : x5_1 ≤ (a0.size : Int)
       ·rw [if_pos c28] at H
        have c28b0 := eq_true c28
        have c28b1 : decide (x5_1 ≤ (a0.size : Int)) = true := decide_eq_true c28
        clear c28
        replace H := Option.bind_eq_some_iff.mp H
        obtain ⟨⟨t305, t306⟩, A290, H⟩ := H
        replace H : (if 0 ≤ (wrap64 (x5_1 + 1)) then (if (wrap64 (x5_1 + 1)) ≤ (wrap64 ((a0.size : Int) - 1)) then (if (wrap64 ((a0.size : Int) - 1)) ≤ (a0.size : Int) then ((spec_l1Signs.f kj16 (a0.extract ((wrap64 (x5_1 + 1)) : Int).toNat ((wrap64 ((a0.size : Int) - 1)) : Int).toNat)).bind fun bt309 => (if t306 = true then (if bt309.2 = true then (if (t305.length : Int) > 60 then (some (y298, y301, false)) else (if (bt309.1.length : Int) > 60 then (some (y298, y301, false)) else (some (t305, bt309.1, true)))) else (some (y298, y301, false))) else (some (y298, y301, false)))) else (none)) else (none)) else (none)) = some (r1, r2, r3) := H
        have A29 := Aside0.mk A290
        clear A290
        obtain ⟨ji30, hji30⟩ : ∃ j_ : Int, (wrap64 (x5_1 + 1)) = j_ := ⟨_, rfl⟩
        replace H : (if 0 ≤ (ji30) then (if (ji30) ≤ (wrap64 ((a0.size : Int) - 1)) then (if (wrap64 ((a0.size : Int) - 1)) ≤ (a0.size : Int) then ((spec_l1Signs.f kj16 (a0.extract ((ji30) : Int).toNat ((wrap64 ((a0.size : Int) - 1)) : Int).toNat)).bind fun bt309 => (if t306 = true then (if bt309.2 = true then (if (t305.length : Int) > 60 then (some (y298, y301, false)) else (if (bt309.1.length : Int) > 60 then (some (y298, y301, false)) else (some (t305, bt309.1, true)))) else (some (y298, y301, false))) else (some (y298, y301, false)))) else (none)) else (none)) else (none)) = some (r1, r2, r3) := by first | (rw [hji30] at H; exact H)
        have hji30w : (IntKind.i64.wrap (x5_1 + 1)) = ji30 := (i64_w _).trans hji30
        by_cases c31 : 0 ≤ (ji30)
        ·rw [if_pos c31] at H
         have c31b0 := eq_true c31
         have c31b1 : decide (0 ≤ (ji30)) = true := decide_eq_true c31
         clear c31
         by_cases c32 : (ji30) ≤ (wrap64 ((a0.size : Int) - 1))
         ·rw [if_pos c32] at H
          have c32b0 := eq_true c32
          have c32b1 : decide ((ji30) ≤ (wrap64 ((a0.size : Int) - 1))) = true := decide_eq_true c32
          clear c32
          by_cases c33 : (wrap64 ((a0.size : Int) - 1)) ≤ (a0.size : Int)
          ·rw [if_pos c33] at H
           have c33b0 := eq_true c33
           have c33b1 : decide ((wrap64 ((a0.size : Int) - 1)) ≤ (a0.size : Int)) = true := decide_eq_true c33
           clear c33
           replace H := Option.bind_eq_some_iff.mp H
           obtain ⟨⟨t309, t310⟩, A340, H⟩ := H
           replace H : (if t306 = true then (if t310 = true then (if (t305.length : Int) > 60 then (some (y298, y301, false)) else (if (t309.length : Int) > 60 then (some (y298, y301, false)) else (some (t305, t309, true)))) else (some (y298, y301, false))) else (some (y298, y301, false))) = some (r1, r2, r3) := H
           have A34 := Aside0.mk A340
           clear A340
           by_cases c35 : t306 = true
           ·subst c35
            replace H : (if t310 = true then (if (t305.length : Int) > 60 then (some (y298, y301, false)) else (if (t309.length : Int) > 60 then (some (y298, y301, false)) else (some (t305, t309, true)))) else (some (y298, y301, false))) = some (r1, r2, r3) := by rw [if_pos rfl] at H; exact H
            by_cases c36 : t310 = true
            ·subst c36
             replace H : (if (t305.length : Int) > 60 then (some (y298, y301, false)) else (if (t309.length : Int) > 60 then (some (y298, y301, false)) else (some (t305, t309, true)))) = some (r1, r2, r3) := by rw [if_pos rfl] at H; exact H
             by_cases c37 : (t305.length : Int) > 60
             ·rw [if_pos c37] at H
              have c37b0 : decide (60 < (t305.length : Int)) = true := decide_eq_true c37
              have c37b1 : decide (60 < t305.length) = true := decide_eq_true (by omega)
              clear c37
              simp only [Option.some.injEq, Prod.mk.injEq] at H
              obtain ⟨rfl, rfl, rfl⟩ := H
              go_wp2_with (first | ((with_reducible refine gate_callee (f := 115) rfl ?_); refine goesL_ (some 43) rfl rfl Try.func115 (by kernel_rfl) rfl #[.string (a0.extract 0 (x5_1 : Int).toNat)] rfl (by (try simp only [List.map_toArray, List.map_cons, List.map_nil]); rfl) ?_; (with_reducible refine (spec_l1Signs.calls kj16 (a0.extract 0 (x5_1 : Int).toNat) t305 true _ A29.out).mono ?_); rintro e w38 ⟨v307, rfl, ho0, hb⟩; refine ⟨_, rfl, ?_⟩; have HO308 := Aside0.mk (Kd.R_lower (Kd.R_new' (Kd.R_new' ho0 (Kd.R_lt HO_305000.out)) (Kd.R_lt HO_305001.out)) (below_size HB.out)); replace HO_305000 := Aside0.mk (Kd.R_elder' HO_305000.out (Kd.R_base ho0) hb); replace HO_305001 := Aside0.mk (Kd.R_elder' HO_305001.out (Kd.R_base ho0) hb); replace BK297 := Aside0.mk (blk_below (g := gb297) (o := .cells #[.slice none 0 0, .slice none 0 0] 66 (0, 0)) BK297.out hb); replace BK304 := Aside0.mk (blk_below (g := gb304) (o := .cells #[.slice Ao9 y298.length co9, .slice Ao8 y301.length co8] 66 (0, 0)) BK304.out hb); replace HB := Aside0.mk (below_step HB.out hb); (try clear hb); (try clear ho0)) | ((with_reducible refine gate_callee (f := 115) rfl ?_); refine goesL_ (some 54) rfl rfl Try.func115 (by kernel_rfl) rfl #[.string (a0.extract ((ji30) : Int).toNat ((wrap64 ((a0.size : Int) - 1)) : Int).toNat)] rfl (by (try simp only [List.map_toArray, List.map_cons, List.map_nil]); rfl) ?_; (with_reducible refine (spec_l1Signs.calls kj16 (a0.extract ((ji30) : Int).toNat ((wrap64 ((a0.size : Int) - 1)) : Int).toNat) t309 true _ A34.out).mono ?_); rintro e w39 ⟨v311, rfl, ho0, hb⟩; refine ⟨_, rfl, ?_⟩; have HO312 := Aside0.mk (Kd.R_lower (Kd.R_new' (Kd.R_new' (Kd.R_new' ho0 (Kd.R_lt HO_305000.out)) (Kd.R_lt HO_305001.out)) (Kd.R_lt HO308.out)) (below_size HB.out)); replace HO_305000 := Aside0.mk (Kd.R_elder' HO_305000.out (Kd.R_base ho0) hb); replace HO_305001 := Aside0.mk (Kd.R_elder' HO_305001.out (Kd.R_base ho0) hb); replace HO308 := Aside0.mk (Kd.R_elder' HO308.out (Kd.R_base ho0) hb); replace BK297 := Aside0.mk (blk_below (g := gb297) (o := .cells #[.slice none 0 0, .slice none 0 0] 66 (0, 0)) BK297.out hb); replace BK304 := Aside0.mk (blk_below (g := gb304) (o := .cells #[.slice Ao9 y298.length co9, .slice Ao8 y301.length co8] 66 (0, 0)) BK304.out hb); replace HB := Aside0.mk (below_step HB.out hb); (try clear hb); (try clear ho0); obtain ⟨Ao40, co40, eo40⟩ := Kd.R_slice HO308.out; subst eo40; have hnb41 := NB304_297.out; have hnc41 := NB297_304.out; have hcz42_0 : w39.cell? ⟨gb304, 0, none⟩ = some (.slice Ao9 y298.length co9) := (blk_cell BK304.out 0).trans rfl; have hcz42_1 : w39.cell? ⟨gb304, 1, none⟩ = some (.slice Ao8 y301.length co8) := (blk_cell BK304.out 1).trans rfl; have hfz42_0 := blk_frozen BK304.out 0; have hfz42_1 := blk_frozen BK304.out 1; have hcz43_0 : w39.cell? ⟨gb297, 0, none⟩ = some (.slice none 0 0) := (blk_cell BK297.out 0).trans rfl; have hcz43_1 : w39.cell? ⟨gb297, 1, none⟩ = some (.slice none 0 0) := (blk_cell BK297.out 1).trans rfl; have hfz43_0 := blk_frozen BK297.out 0; have hfz43_1 := blk_frozen BK297.out 1))
              refine bodyPost_ret (results_ct rfl _ _ gb297 66 #[.slice Ao9 y298.length co9, .slice Ao8 y301.length co8] (0, 0) _ rfl (by refine blk_put (cs := #[.slice Ao9 y298.length co9, .slice none 0 0]) ?_ 1 _ rfl; refine blk_put (cs := #[.slice none 0 0, .slice none 0 0]) ?_ 0 _ rfl; exact BK297.out) Try.underlying66 rfl (by kernel_rfl)) rfl ?_
              exact ⟨_, _, by first | rfl | (simp [*, errW_none, errW_some] <;> rfl), by exact Kd.R_mono (Kd.R_far (p := ⟨gb297, 1, none⟩) (Kd.R_far (p := ⟨gb297, 0, none⟩) (Kd.R_types HO_305000.out BK297.out (by decide)) (fun _ hk => hk.2) (.slice Ao9 y298.length co9)) (fun _ hk => hk.2) (.slice Ao8 y301.length co8)) (fun _ hk => hk.1.1.1), by exact Kd.R_mono (Kd.R_far (p := ⟨gb297, 1, none⟩) (Kd.R_far (p := ⟨gb297, 0, none⟩) (Kd.R_types HO_305001.out BK297.out (by decide)) (fun _ hk => hk.2) (.slice Ao9 y298.length co9)) (fun _ hk => hk.2) (.slice Ao8 y301.length co8)) (fun _ hk => hk.1.1.1), by repeat (first | (with_reducible first | exact HB.out | refine below_set ?_ GE297.out))⟩
             ·rw [if_neg c37] at H
              have c37b0 : decide (60 < (t305.length : Int)) = false := decide_eq_false c37
              have c37b1 : decide (60 < t305.length) = false := decide_eq_false (by omega)
              clear c37
              by_cases c44 : (t309.length : Int) > 60
              ·rw [if_pos c44] at H
               have c44b0 : decide (60 < (t309.length : Int)) = true := decide_eq_true c44
               have c44b1 : decide (60 < t309.length) = true := decide_eq_true (by omega)
               clear c44
               simp only [Option.some.injEq, Prod.mk.injEq] at H
               obtain ⟨rfl, rfl, rfl⟩ := H
               go_wp2_with (first | ((with_reducible refine gate_callee (f := 115) rfl ?_); refine goesL_ (some 43) rfl rfl Try.func115 (by kernel_rfl) rfl #[.string (a0.extract 0 (x5_1 : Int).toNat)] rfl (by (try simp only [List.map_toArray, List.map_cons, List.map_nil]); rfl) ?_; (with_reducible refine (spec_l1Signs.calls kj16 (a0.extract 0 (x5_1 : Int).toNat) t305 true _ A29.out).mono ?_); rintro e w45 ⟨v307, rfl, ho0, hb⟩; refine ⟨_, rfl, ?_⟩; have HO308 := Aside0.mk (Kd.R_lower (Kd.R_new' (Kd.R_new' ho0 (Kd.R_lt HO_305000.out)) (Kd.R_lt HO_305001.out)) (below_size HB.out)); replace HO_305000 := Aside0.mk (Kd.R_elder' HO_305000.out (Kd.R_base ho0) hb); replace HO_305001 := Aside0.mk (Kd.R_elder' HO_305001.out (Kd.R_base ho0) hb); replace BK297 := Aside0.mk (blk_below (g := gb297) (o := .cells #[.slice none 0 0, .slice none 0 0] 66 (0, 0)) BK297.out hb); replace BK304 := Aside0.mk (blk_below (g := gb304) (o := .cells #[.slice Ao9 y298.length co9, .slice Ao8 y301.length co8] 66 (0, 0)) BK304.out hb); replace HB := Aside0.mk (below_step HB.out hb); (try clear hb); (try clear ho0)) | ((with_reducible refine gate_callee (f := 115) rfl ?_); refine goesL_ (some 54) rfl rfl Try.func115 (by kernel_rfl) rfl #[.string (a0.extract ((ji30) : Int).toNat ((wrap64 ((a0.size : Int) - 1)) : Int).toNat)] rfl (by (try simp only [List.map_toArray, List.map_cons, List.map_nil]); rfl) ?_; (with_reducible refine (spec_l1Signs.calls kj16 (a0.extract ((ji30) : Int).toNat ((wrap64 ((a0.size : Int) - 1)) : Int).toNat) t309 true _ A34.out).mono ?_); rintro e w46 ⟨v311, rfl, ho0, hb⟩; refine ⟨_, rfl, ?_⟩; have HO312 := Aside0.mk (Kd.R_lower (Kd.R_new' (Kd.R_new' (Kd.R_new' ho0 (Kd.R_lt HO_305000.out)) (Kd.R_lt HO_305001.out)) (Kd.R_lt HO308.out)) (below_size HB.out)); replace HO_305000 := Aside0.mk (Kd.R_elder' HO_305000.out (Kd.R_base ho0) hb); replace HO_305001 := Aside0.mk (Kd.R_elder' HO_305001.out (Kd.R_base ho0) hb); replace HO308 := Aside0.mk (Kd.R_elder' HO308.out (Kd.R_base ho0) hb); replace BK297 := Aside0.mk (blk_below (g := gb297) (o := .cells #[.slice none 0 0, .slice none 0 0] 66 (0, 0)) BK297.out hb); replace BK304 := Aside0.mk (blk_below (g := gb304) (o := .cells #[.slice Ao9 y298.length co9, .slice Ao8 y301.length co8] 66 (0, 0)) BK304.out hb); replace HB := Aside0.mk (below_step HB.out hb); (try clear hb); (try clear ho0); obtain ⟨Ao47, co47, eo47⟩ := Kd.R_slice HO308.out; subst eo47; obtain ⟨Ao48, co48, eo48⟩ := Kd.R_slice HO312.out; subst eo48; have hnb49 := NB304_297.out; have hnc49 := NB297_304.out; have hcz50_0 : w46.cell? ⟨gb304, 0, none⟩ = some (.slice Ao9 y298.length co9) := (blk_cell BK304.out 0).trans rfl; have hcz50_1 : w46.cell? ⟨gb304, 1, none⟩ = some (.slice Ao8 y301.length co8) := (blk_cell BK304.out 1).trans rfl; have hfz50_0 := blk_frozen BK304.out 0; have hfz50_1 := blk_frozen BK304.out 1; have hcz51_0 : w46.cell? ⟨gb297, 0, none⟩ = some (.slice none 0 0) := (blk_cell BK297.out 0).trans rfl; have hcz51_1 : w46.cell? ⟨gb297, 1, none⟩ = some (.slice none 0 0) := (blk_cell BK297.out 1).trans rfl; have hfz51_0 := blk_frozen BK297.out 0; have hfz51_1 := blk_frozen BK297.out 1))
               refine bodyPost_ret (results_ct rfl _ _ gb297 66 #[.slice Ao9 y298.length co9, .slice Ao8 y301.length co8] (0, 0) _ rfl (by refine blk_put (cs := #[.slice Ao9 y298.length co9, .slice none 0 0]) ?_ 1 _ rfl; refine blk_put (cs := #[.slice none 0 0, .slice none 0 0]) ?_ 0 _ rfl; exact BK297.out) Try.underlying66 rfl (by kernel_rfl)) rfl ?_
               exact ⟨_, _, by first | rfl | (simp [*, errW_none, errW_some] <;> rfl), by exact Kd.R_mono (Kd.R_far (p := ⟨gb297, 1, none⟩) (Kd.R_far (p := ⟨gb297, 0, none⟩) (Kd.R_types HO_305000.out BK297.out (by decide)) (fun _ hk => hk.2) (.slice Ao9 y298.length co9)) (fun _ hk => hk.2) (.slice Ao8 y301.length co8)) (fun _ hk => hk.1.1.1), by exact Kd.R_mono (Kd.R_far (p := ⟨gb297, 1, none⟩) (Kd.R_far (p := ⟨gb297, 0, none⟩) (Kd.R_types HO_305001.out BK297.out (by decide)) (fun _ hk => hk.2) (.slice Ao9 y298.length co9)) (fun _ hk => hk.2) (.slice Ao8 y301.length co8)) (fun _ hk => hk.1.1.1), by repeat (first | (with_reducible first | exact HB.out | refine below_set ?_ GE297.out))⟩
              ·rw [if_neg c44] at H
               have c44b0 : decide (60 < (t309.length : Int)) = false := decide_eq_false c44
               have c44b1 : decide (60 < t309.length) = false := decide_eq_false (by omega)
               clear c44
               simp only [Option.some.injEq, Prod.mk.injEq] at H
               obtain ⟨rfl, rfl, rfl⟩ := H
               go_wp2_with (first | ((with_reducible refine gate_callee (f := 115) rfl ?_); refine goesL_ (some 43) rfl rfl Try.func115 (by kernel_rfl) rfl #[.string (a0.extract 0 (x5_1 : Int).toNat)] rfl (by (try simp only [List.map_toArray, List.map_cons, List.map_nil]); rfl) ?_; (with_reducible refine (spec_l1Signs.calls kj16 (a0.extract 0 (x5_1 : Int).toNat) t305 true _ A29.out).mono ?_); rintro e w52 ⟨v307, rfl, ho0, hb⟩; refine ⟨_, rfl, ?_⟩; have HO308 := Aside0.mk (Kd.R_lower (Kd.R_new' (Kd.R_new' ho0 (Kd.R_lt HO_305000.out)) (Kd.R_lt HO_305001.out)) (below_size HB.out)); replace HO_305000 := Aside0.mk (Kd.R_elder' HO_305000.out (Kd.R_base ho0) hb); replace HO_305001 := Aside0.mk (Kd.R_elder' HO_305001.out (Kd.R_base ho0) hb); replace BK297 := Aside0.mk (blk_below (g := gb297) (o := .cells #[.slice none 0 0, .slice none 0 0] 66 (0, 0)) BK297.out hb); replace BK304 := Aside0.mk (blk_below (g := gb304) (o := .cells #[.slice Ao9 y298.length co9, .slice Ao8 y301.length co8] 66 (0, 0)) BK304.out hb); replace HB := Aside0.mk (below_step HB.out hb); (try clear hb); (try clear ho0)) | ((with_reducible refine gate_callee (f := 115) rfl ?_); refine goesL_ (some 54) rfl rfl Try.func115 (by kernel_rfl) rfl #[.string (a0.extract ((ji30) : Int).toNat ((wrap64 ((a0.size : Int) - 1)) : Int).toNat)] rfl (by (try simp only [List.map_toArray, List.map_cons, List.map_nil]); rfl) ?_; (with_reducible refine (spec_l1Signs.calls kj16 (a0.extract ((ji30) : Int).toNat ((wrap64 ((a0.size : Int) - 1)) : Int).toNat) t309 true _ A34.out).mono ?_); rintro e w53 ⟨v311, rfl, ho0, hb⟩; refine ⟨_, rfl, ?_⟩; have HO312 := Aside0.mk (Kd.R_lower (Kd.R_new' (Kd.R_new' (Kd.R_new' ho0 (Kd.R_lt HO_305000.out)) (Kd.R_lt HO_305001.out)) (Kd.R_lt HO308.out)) (below_size HB.out)); replace HO_305000 := Aside0.mk (Kd.R_elder' HO_305000.out (Kd.R_base ho0) hb); replace HO_305001 := Aside0.mk (Kd.R_elder' HO_305001.out (Kd.R_base ho0) hb); replace HO308 := Aside0.mk (Kd.R_elder' HO308.out (Kd.R_base ho0) hb); replace BK297 := Aside0.mk (blk_below (g := gb297) (o := .cells #[.slice none 0 0, .slice none 0 0] 66 (0, 0)) BK297.out hb); replace BK304 := Aside0.mk (blk_below (g := gb304) (o := .cells #[.slice Ao9 y298.length co9, .slice Ao8 y301.length co8] 66 (0, 0)) BK304.out hb); replace HB := Aside0.mk (below_step HB.out hb); (try clear hb); (try clear ho0); obtain ⟨Ao54, co54, eo54⟩ := Kd.R_slice HO308.out; subst eo54; obtain ⟨Ao55, co55, eo55⟩ := Kd.R_slice HO312.out; subst eo55; have hnb56 := NB297_304.out; have hnc56 := NB304_297.out; have hcz57_0 : w53.cell? ⟨gb297, 0, none⟩ = some (.slice none 0 0) := (blk_cell BK297.out 0).trans rfl; have hcz57_1 : w53.cell? ⟨gb297, 1, none⟩ = some (.slice none 0 0) := (blk_cell BK297.out 1).trans rfl; have hfz57_0 := blk_frozen BK297.out 0; have hfz57_1 := blk_frozen BK297.out 1))
               refine bodyPost_ret (results_ct rfl _ _ gb297 66 #[.slice Ao54 t305.length co54, .slice Ao55 t309.length co55] (0, 0) _ rfl (by refine blk_put (cs := #[.slice Ao54 t305.length co54, .slice none 0 0]) ?_ 1 _ rfl; refine blk_put (cs := #[.slice none 0 0, .slice none 0 0]) ?_ 0 _ rfl; exact BK297.out) Try.underlying66 rfl (by kernel_rfl)) rfl ?_
               exact ⟨_, _, by first | rfl | (simp [*, errW_none, errW_some] <;> rfl), by exact Kd.R_mono (Kd.R_far (p := ⟨gb297, 1, none⟩) (Kd.R_far (p := ⟨gb297, 0, none⟩) (Kd.R_types HO308.out BK297.out (by decide)) (fun _ hk => hk.2) (.slice Ao54 t305.length co54)) (fun _ hk => hk.2) (.slice Ao55 t309.length co55)) (fun _ hk => hk.1.2), by exact Kd.R_mono (Kd.R_far (p := ⟨gb297, 1, none⟩) (Kd.R_far (p := ⟨gb297, 0, none⟩) (Kd.R_types HO312.out BK297.out (by decide)) (fun _ hk => hk.2) (.slice Ao54 t305.length co54)) (fun _ hk => hk.2) (.slice Ao55 t309.length co55)) (fun _ hk => hk.1.2), by repeat (first | (with_reducible first | exact HB.out | refine below_set ?_ GE297.out))⟩
            ·replace c36 := Bool.eq_false_iff.mpr c36
             subst c36
             replace H : (some (y298, y301, false)) = some (r1, r2, r3) := by rw [if_neg (show ¬ (false = true) by decide)] at H; exact H
             simp only [Option.some.injEq, Prod.mk.injEq] at H
             obtain ⟨rfl, rfl, rfl⟩ := H
             go_wp2_with (first | ((with_reducible refine gate_callee (f := 115) rfl ?_); refine goesL_ (some 43) rfl rfl Try.func115 (by kernel_rfl) rfl #[.string (a0.extract 0 (x5_1 : Int).toNat)] rfl (by (try simp only [List.map_toArray, List.map_cons, List.map_nil]); rfl) ?_; (with_reducible refine (spec_l1Signs.calls kj16 (a0.extract 0 (x5_1 : Int).toNat) t305 true _ A29.out).mono ?_); rintro e w58 ⟨v307, rfl, ho0, hb⟩; refine ⟨_, rfl, ?_⟩; have HO308 := Aside0.mk (Kd.R_lower (Kd.R_new' (Kd.R_new' ho0 (Kd.R_lt HO_305000.out)) (Kd.R_lt HO_305001.out)) (below_size HB.out)); replace HO_305000 := Aside0.mk (Kd.R_elder' HO_305000.out (Kd.R_base ho0) hb); replace HO_305001 := Aside0.mk (Kd.R_elder' HO_305001.out (Kd.R_base ho0) hb); replace BK297 := Aside0.mk (blk_below (g := gb297) (o := .cells #[.slice none 0 0, .slice none 0 0] 66 (0, 0)) BK297.out hb); replace BK304 := Aside0.mk (blk_below (g := gb304) (o := .cells #[.slice Ao9 y298.length co9, .slice Ao8 y301.length co8] 66 (0, 0)) BK304.out hb); replace HB := Aside0.mk (below_step HB.out hb); (try clear hb); (try clear ho0)) | ((with_reducible refine gate_callee (f := 115) rfl ?_); refine goesL_ (some 54) rfl rfl Try.func115 (by kernel_rfl) rfl #[.string (a0.extract ((ji30) : Int).toNat ((wrap64 ((a0.size : Int) - 1)) : Int).toNat)] rfl (by (try simp only [List.map_toArray, List.map_cons, List.map_nil]); rfl) ?_; (with_reducible refine (spec_l1Signs.calls kj16 (a0.extract ((ji30) : Int).toNat ((wrap64 ((a0.size : Int) - 1)) : Int).toNat) t309 false _ A34.out).mono ?_); rintro e w59 ⟨v311, rfl, ho0, hb⟩; refine ⟨_, rfl, ?_⟩; have HO312 := Aside0.mk (Kd.R_lower (Kd.R_new' (Kd.R_new' (Kd.R_new' ho0 (Kd.R_lt HO_305000.out)) (Kd.R_lt HO_305001.out)) (Kd.R_lt HO308.out)) (below_size HB.out)); replace HO_305000 := Aside0.mk (Kd.R_elder' HO_305000.out (Kd.R_base ho0) hb); replace HO_305001 := Aside0.mk (Kd.R_elder' HO_305001.out (Kd.R_base ho0) hb); replace HO308 := Aside0.mk (Kd.R_elder' HO308.out (Kd.R_base ho0) hb); replace BK297 := Aside0.mk (blk_below (g := gb297) (o := .cells #[.slice none 0 0, .slice none 0 0] 66 (0, 0)) BK297.out hb); replace BK304 := Aside0.mk (blk_below (g := gb304) (o := .cells #[.slice Ao9 y298.length co9, .slice Ao8 y301.length co8] 66 (0, 0)) BK304.out hb); replace HB := Aside0.mk (below_step HB.out hb); (try clear hb); (try clear ho0); have hnb60 := NB304_297.out; have hnc60 := NB297_304.out; have hcz61_0 : w59.cell? ⟨gb304, 0, none⟩ = some (.slice Ao9 y298.length co9) := (blk_cell BK304.out 0).trans rfl; have hcz61_1 : w59.cell? ⟨gb304, 1, none⟩ = some (.slice Ao8 y301.length co8) := (blk_cell BK304.out 1).trans rfl; have hfz61_0 := blk_frozen BK304.out 0; have hfz61_1 := blk_frozen BK304.out 1; have hcz62_0 : w59.cell? ⟨gb297, 0, none⟩ = some (.slice none 0 0) := (blk_cell BK297.out 0).trans rfl; have hcz62_1 : w59.cell? ⟨gb297, 1, none⟩ = some (.slice none 0 0) := (blk_cell BK297.out 1).trans rfl; have hfz62_0 := blk_frozen BK297.out 0; have hfz62_1 := blk_frozen BK297.out 1))
             refine bodyPost_ret (results_ct rfl _ _ gb297 66 #[.slice Ao9 y298.length co9, .slice Ao8 y301.length co8] (0, 0) _ rfl (by refine blk_put (cs := #[.slice Ao9 y298.length co9, .slice none 0 0]) ?_ 1 _ rfl; refine blk_put (cs := #[.slice none 0 0, .slice none 0 0]) ?_ 0 _ rfl; exact BK297.out) Try.underlying66 rfl (by kernel_rfl)) rfl ?_
             exact ⟨_, _, by first | rfl | (simp [*, errW_none, errW_some] <;> rfl), by exact Kd.R_mono (Kd.R_far (p := ⟨gb297, 1, none⟩) (Kd.R_far (p := ⟨gb297, 0, none⟩) (Kd.R_types HO_305000.out BK297.out (by decide)) (fun _ hk => hk.2) (.slice Ao9 y298.length co9)) (fun _ hk => hk.2) (.slice Ao8 y301.length co8)) (fun _ hk => hk.1.1.1), by exact Kd.R_mono (Kd.R_far (p := ⟨gb297, 1, none⟩) (Kd.R_far (p := ⟨gb297, 0, none⟩) (Kd.R_types HO_305001.out BK297.out (by decide)) (fun _ hk => hk.2) (.slice Ao9 y298.length co9)) (fun _ hk => hk.2) (.slice Ao8 y301.length co8)) (fun _ hk => hk.1.1.1), by repeat (first | (with_reducible first | exact HB.out | refine below_set ?_ GE297.out))⟩
           ·replace c35 := Bool.eq_false_iff.mpr c35
            subst c35
            replace H : (some (y298, y301, false)) = some (r1, r2, r3) := by rw [if_neg (show ¬ (false = true) by decide)] at H; exact H
            simp only [Option.some.injEq, Prod.mk.injEq] at H
            obtain ⟨rfl, rfl, rfl⟩ := H
            go_wp2_with (first | ((with_reducible refine gate_callee (f := 115) rfl ?_); refine goesL_ (some 43) rfl rfl Try.func115 (by kernel_rfl) rfl #[.string (a0.extract 0 (x5_1 : Int).toNat)] rfl (by (try simp only [List.map_toArray, List.map_cons, List.map_nil]); rfl) ?_; (with_reducible refine (spec_l1Signs.calls kj16 (a0.extract 0 (x5_1 : Int).toNat) t305 false _ A29.out).mono ?_); rintro e w63 ⟨v307, rfl, ho0, hb⟩; refine ⟨_, rfl, ?_⟩; have HO308 := Aside0.mk (Kd.R_lower (Kd.R_new' (Kd.R_new' ho0 (Kd.R_lt HO_305000.out)) (Kd.R_lt HO_305001.out)) (below_size HB.out)); replace HO_305000 := Aside0.mk (Kd.R_elder' HO_305000.out (Kd.R_base ho0) hb); replace HO_305001 := Aside0.mk (Kd.R_elder' HO_305001.out (Kd.R_base ho0) hb); replace BK297 := Aside0.mk (blk_below (g := gb297) (o := .cells #[.slice none 0 0, .slice none 0 0] 66 (0, 0)) BK297.out hb); replace BK304 := Aside0.mk (blk_below (g := gb304) (o := .cells #[.slice Ao9 y298.length co9, .slice Ao8 y301.length co8] 66 (0, 0)) BK304.out hb); replace HB := Aside0.mk (below_step HB.out hb); (try clear hb); (try clear ho0)) | ((with_reducible refine gate_callee (f := 115) rfl ?_); refine goesL_ (some 54) rfl rfl Try.func115 (by kernel_rfl) rfl #[.string (a0.extract ((ji30) : Int).toNat ((wrap64 ((a0.size : Int) - 1)) : Int).toNat)] rfl (by (try simp only [List.map_toArray, List.map_cons, List.map_nil]); rfl) ?_; (with_reducible refine (spec_l1Signs.calls kj16 (a0.extract ((ji30) : Int).toNat ((wrap64 ((a0.size : Int) - 1)) : Int).toNat) t309 t310 _ A34.out).mono ?_); rintro e w64 ⟨v311, rfl, ho0, hb⟩; refine ⟨_, rfl, ?_⟩; have HO312 := Aside0.mk (Kd.R_lower (Kd.R_new' (Kd.R_new' (Kd.R_new' ho0 (Kd.R_lt HO_305000.out)) (Kd.R_lt HO_305001.out)) (Kd.R_lt HO308.out)) (below_size HB.out)); replace HO_305000 := Aside0.mk (Kd.R_elder' HO_305000.out (Kd.R_base ho0) hb); replace HO_305001 := Aside0.mk (Kd.R_elder' HO_305001.out (Kd.R_base ho0) hb); replace HO308 := Aside0.mk (Kd.R_elder' HO308.out (Kd.R_base ho0) hb); replace BK297 := Aside0.mk (blk_below (g := gb297) (o := .cells #[.slice none 0 0, .slice none 0 0] 66 (0, 0)) BK297.out hb); replace BK304 := Aside0.mk (blk_below (g := gb304) (o := .cells #[.slice Ao9 y298.length co9, .slice Ao8 y301.length co8] 66 (0, 0)) BK304.out hb); replace HB := Aside0.mk (below_step HB.out hb); (try clear hb); (try clear ho0); have hnb65 := NB304_297.out; have hnc65 := NB297_304.out; have hcz66_0 : w64.cell? ⟨gb304, 0, none⟩ = some (.slice Ao9 y298.length co9) := (blk_cell BK304.out 0).trans rfl; have hcz66_1 : w64.cell? ⟨gb304, 1, none⟩ = some (.slice Ao8 y301.length co8) := (blk_cell BK304.out 1).trans rfl; have hfz66_0 := blk_frozen BK304.out 0; have hfz66_1 := blk_frozen BK304.out 1; have hcz67_0 : w64.cell? ⟨gb297, 0, none⟩ = some (.slice none 0 0) := (blk_cell BK297.out 0).trans rfl; have hcz67_1 : w64.cell? ⟨gb297, 1, none⟩ = some (.slice none 0 0) := (blk_cell BK297.out 1).trans rfl; have hfz67_0 := blk_frozen BK297.out 0; have hfz67_1 := blk_frozen BK297.out 1))
            refine bodyPost_ret (results_ct rfl _ _ gb297 66 #[.slice Ao9 y298.length co9, .slice Ao8 y301.length co8] (0, 0) _ rfl (by refine blk_put (cs := #[.slice Ao9 y298.length co9, .slice none 0 0]) ?_ 1 _ rfl; refine blk_put (cs := #[.slice none 0 0, .slice none 0 0]) ?_ 0 _ rfl; exact BK297.out) Try.underlying66 rfl (by kernel_rfl)) rfl ?_
            exact ⟨_, _, by first | rfl | (simp [*, errW_none, errW_some] <;> rfl), by exact Kd.R_mono (Kd.R_far (p := ⟨gb297, 1, none⟩) (Kd.R_far (p := ⟨gb297, 0, none⟩) (Kd.R_types HO_305000.out BK297.out (by decide)) (fun _ hk => hk.2) (.slice Ao9 y298.length co9)) (fun _ hk => hk.2) (.slice Ao8 y301.length co8)) (fun _ hk => hk.1.1.1), by exact Kd.R_mono (Kd.R_far (p := ⟨gb297, 1, none⟩) (Kd.R_far (p := ⟨gb297, 0, none⟩) (Kd.R_types HO_305001.out BK297.out (by decide)) (fun _ hk => hk.2) (.slice Ao9 y298.length co9)) (fun _ hk => hk.2) (.slice Ao8 y301.length co8)) (fun _ hk => hk.1.1.1), by repeat (first | (with_reducible first | exact HB.out | refine below_set ?_ GE297.out))⟩
          ·rw [if_neg c33] at H
           exact absurd H (by simp)
         ·rw [if_neg c32] at H
          exact absurd H (by simp)
        ·rw [if_neg c31] at H
         exact absurd H (by simp)
       ·rw [if_neg c28] at H
        exact absurd H (by simp)
      ·rw [if_neg c27] at H
       exact absurd H (by simp)

end Go.Proofs.Ytpkpgdlbgcjloaa.Q
