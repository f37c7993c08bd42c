/- The law FnSolveOne holds for all that it draws. -/
import Derived.ArgAppend
import Derived.Below
import Derived.BigQuiet
import Derived.Deep.AppendLies
import Derived.Deep.CutBlock
import Derived.Deep.DeepCutAuto
import Derived.Deep.Draws
import Derived.Deep.LoopGhost
import Derived.Deep.OwnRows
import Derived.Deep.QuietTactic
import Derived.Deep.RegionHeld3
import Derived.KernelRfl
import Derived.Laws.BitsLemmas
import Derived.Laws.BytesArg
import Derived.Laws.IdiomCopy
import Derived.Laws.MakeOwn
import Derived.Laws.OwnMore
import Derived.Laws.Rows
import Derived.Laws.Slices
import Derived.Lib.AppendStr
import Derived.Lib.Bytealg
import Derived.Lib.ConvBytes
import Derived.Lib.Hide
import Derived.Lib.Slices
import Derived.Lib.Strings
import Derived.Lib.Walk
import Derived.Maps.AppendAt
import Derived.OrdersHeld
import Derived.OwnWalk
import Derived.RowKit
import Derived.RowKit3
import Derived.Tactics
import Derived.Test.YtpkpgdlbgcjloaaProg
import Derived.Laws.StructEq
import Derived.WalkKit
import Derived.WalkSpells
import Derived.WideLaws
import Derived.Test.YtpkpgdlbgcjloaaCFnSolveOne4
import Derived.Test.YtpkpgdlbgcjloaaCFnSolveOne5
import Derived.Test.YtpkpgdlbgcjloaaCFnSolveOne6
import Derived.Test.YtpkpgdlbgcjloaaCFnSolveOne7
namespace Go.Proofs.Ytpkpgdlbgcjloaa.Q
open Go.RowKit Go.Proofs.YtpkpgdlbgcjloaaW.PrintWords Go.Proofs.YtpkpgdlbgcjloaaW.PrintLast Go.Proofs.YtpkpgdlbgcjloaaW.PrintMore
theorem bN : type_of% @pw_below_drewN := @pw_below_drewN
theorem b1 : type_of% @below_drew1 := @below_drew1
theorem bA : type_of% @below_alloc := @below_alloc
theorem bS : type_of% @below_set := @below_set
theorem kA : type_of% @blk_alloc := @blk_alloc
theorem kN : type_of% @blk_drewN := @blk_drewN
theorem kD : type_of% @blk_drew := @blk_drew
theorem rN : type_of% @Kd.R_drewN := @Kd.R_drewN
theorem rA : type_of% @Kd.R_alloc := @Kd.R_alloc
theorem rD : type_of% @Kd.R_drew := @Kd.R_drew
theorem vD : type_of% @Kd.V_drew := @Kd.V_drew
theorem sA : type_of% @List.setIfInBounds_toArray := @List.setIfInBounds_toArray
theorem sZ : type_of% @List.set_cons_zero := @List.set_cons_zero
theorem sS : type_of% @List.set_cons_succ := @List.set_cons_succ
theorem aM : type_of% @Aside0.mk := @Aside0.mk
end Go.Proofs.Ytpkpgdlbgcjloaa.Q

namespace Go.Proofs.Ytpkpgdlbgcjloaa.Q
open Go.RowKit Go.Proofs.YtpkpgdlbgcjloaaW.PrintWords Go.Proofs.YtpkpgdlbgcjloaaW.PrintLast Go.Proofs.YtpkpgdlbgcjloaaW.PrintMore
attribute [local go_sem] max2_int min2_int max_two min_two max_three min_three max_four min_four   -- for this text's walks alone
set_option linter.unusedVariables false
set_option linter.unusedSimpArgs false
def errW : Option Int → Value
 | none => .nilIface
 | some c => .iface 0 (.int .i64 c)
theorem errW_none : errW none = .nilIface := rfl
theorem errW_some (c : Int) : errW (some c) = .iface 0 (.int .i64 c) := rfl

theorem info4 : (Try.prog.info? 4).map (fun i => (i.zero, i.size, i.bytes)) = some (some (.bool false), 1, 1) := by kernel_rfl
theorem info5 : (Try.prog.info? 5).map (fun i => (i.zero, i.size, i.bytes)) = some (some (.int .u8 0), 1, 1) := by kernel_rfl

/-- Index at a separator of one byte (of others nothing is told). -/
def stringslite_Index.f (a0 a1 : ByteArray) : Option Int := if h : a1.size = 1 then some (Lib.indexByte a0.data.toList (a1[0]'(by omega))) else none
theorem stringslite_Index.one (a1 : ByteArray) (h : a1.size = 1) : a1 = ⟨#[a1[0]'(by omega)]⟩ := by
 obtain ⟨⟨l⟩⟩ := a1
 match l, h with
 | [c], _ => rfl
set_option maxHeartbeats 2000000 in
set_option maxRecDepth 100000 in
theorem stringslite_Index.calls_one (s : ByteArray) (c : UInt8) (w : World) :
  Calls Try.prog 126 #[.string s, .string ⟨#[c]⟩] w fun e w' => e = .returned (.int .i64 (Lib.indexByte s.data.toList c)) ∧ Drawn0 w w' := by
 have hx : ∀ (t : ByteArray) (d : UInt8) (w1 : World), Calls Try.prog 129 #[.string t, .int .u8 d.toNat] w1 fun e w' => e = .returned (.int .i64 (Lib.indexByte t.data.toList d)) ∧ w' = w1 := by
  intro t d w1
  go_enter Try.func129, Try.ntmps129
  go_wp2
  rw [run_callFunc_extern Try.func134 (by kernel_rfl) (by kernel_rfl) (by kernel_rfl) (e := Extern.BytealgIndexByte.indexByte) (by kernel_rfl), Lib.run_indexByteString]
  simp only [Result.andThen]
  rw [Oper.upon_value]
  go_wp2
  go_ret
  exact ⟨by simp, rfl⟩
 go_enter Try.func126, Try.ntmps126
 go_wp2_with (go_at_call 129; refine (hx _ _ _).mono ?_; rintro e w' ⟨rfl, rfl⟩)
 ·have h : ([c] == s.toList) = true := by assumption
  go_ret
  refine ⟨?_, Drawn0.refl _⟩
  have e : s.data.toList = [c] := by rw [← Lib.toList_data]; exact (beq_iff_eq.1 h).symm
  rw [e]
  simp [Lib.indexByte]
 ·go_ret
  exact ⟨rfl, Drawn0.refl _⟩
theorem stringslite_Index.calls (a0 : ByteArray) (a1 : ByteArray) (r : Int) (w : World) (h : stringslite_Index.f a0 a1 = some r) :
  Calls Try.prog 126 #[.string a0, .string a1] w fun e w' => e = .returned (.int .i64 r) ∧ Drawn0 w w' := by
 unfold stringslite_Index.f at h
 split at h
 ·rename_i h1
  obtain rfl := Option.some.inj h
  have e1 := stringslite_Index.one a1 h1
  have := stringslite_Index.calls_one a0 (a1[0]'(by omega)) w
  rw [← e1] at this
  exact this
 ·cases h

def stringslite_Cut.f (a0 : ByteArray) (a1 : ByteArray) : Option (ByteArray × ByteArray × Bool) := (stringslite_Index.f a0 a1).bind fun t148 => (if t148 ≥ 0 then (if 0 ≤ t148 then (if t148 ≤ (a0.size : Int) then (if 0 ≤ (wrap64 (t148 + (a1.size : Int))) then (if (wrap64 (t148 + (a1.size : Int))) ≤ (a0.size : Int) then (some (a0.extract 0 (t148 : Int).toNat, a0.extract ((wrap64 (t148 + (a1.size : Int))) : Int).toNat a0.size, true)) else (none)) else (none)) else (none)) else (none)) else (some (a0, (⟨#[]⟩ : ByteArray), false)))
set_option maxHeartbeats 8000000 in
set_option maxRecDepth 100000 in
theorem stringslite_Cut.calls (a0 : ByteArray) (a1 : ByteArray) (r1 : ByteArray) (r2 : ByteArray) (r3 : Bool) (w : World) (h : stringslite_Cut.f a0 a1 = some (r1, r2, r3)) :
  Calls Try.prog 120 #[.string a0, .string a1] w fun e w' => e = .returned (.tuple #[.string r1, .string r2, .bool r3]) ∧ Drawn0 w w' := by
 have H : ((stringslite_Index.f a0 a1).bind fun t148 => (if t148 ≥ 0 then (if 0 ≤ t148 then (if t148 ≤ (a0.size : Int) then (if 0 ≤ (wrap64 (t148 + (a1.size : Int))) then (if (wrap64 (t148 + (a1.size : Int))) ≤ (a0.size : Int) then (some (a0.extract 0 (t148 : Int).toNat, a0.extract ((wrap64 (t148 + (a1.size : Int))) : Int).toNat a0.size, true)) else (none)) else (none)) else (none)) else (none)) else (some (a0, (⟨#[]⟩ : ByteArray), false)))) = some (r1, r2, r3) := h
 clear h
 replace H := Option.bind_eq_some_iff.mp H
 obtain ⟨t148, A30, H⟩ := H
 replace H : (if t148 ≥ 0 then (if 0 ≤ t148 then (if t148 ≤ (a0.size : Int) then (if 0 ≤ (wrap64 (t148 + (a1.size : Int))) then (if (wrap64 (t148 + (a1.size : Int))) ≤ (a0.size : Int) then (some (a0.extract 0 (t148 : Int).toNat, a0.extract ((wrap64 (t148 + (a1.size : Int))) : Int).toNat a0.size, true)) else (none)) else (none)) else (none)) else (none)) else (some (a0, (⟨#[]⟩ : ByteArray), false))) = some (r1, r2, r3) := H
 have A3 := aM A30
 clear A30
 by_cases c4 : t148 ≥ 0
 ·rw [if_pos c4] at H
  have c4b0 : decide (0 ≤ t148) = true := decide_eq_true c4
  clear c4
  by_cases c5 : 0 ≤ t148
  ·rw [if_pos c5] at H
   have c5b0 := eq_true c5
   have c5b1 : decide (0 ≤ t148) = true := decide_eq_true c5
   clear c5
   by_cases c6 : t148 ≤ (a0.size : Int)
   ·rw [if_pos c6] at H
    have c6b0 := eq_true c6
    have c6b1 : decide (t148 ≤ (a0.size : Int)) = true := decide_eq_true c6
    clear c6
    obtain ⟨ji7, hji7⟩ : ∃ j_ : Int, (wrap64 (t148 + (a1.size : Int))) = j_ := ⟨_, rfl⟩
    replace H : (if 0 ≤ (ji7) then (if (ji7) ≤ (a0.size : Int) then (some (a0.extract 0 (t148 : Int).toNat, a0.extract ((ji7) : Int).toNat a0.size, true)) else (none)) else (none)) = some (r1, r2, r3) := by first | (rw [hji7] at H; exact H)
    have hji7w : (IntKind.i64.wrap (t148 + (a1.size : Int))) = ji7 := (i64_w _).trans hji7
    by_cases c8 : 0 ≤ (ji7)
    ·rw [if_pos c8] at H
     have c8b0 := eq_true c8
     have c8b1 : decide (0 ≤ (ji7)) = true := decide_eq_true c8
     clear c8
     by_cases c9 : (ji7) ≤ (a0.size : Int)
     ·rw [if_pos c9] at H
      have c9b0 := eq_true c9
      have c9b1 : decide ((ji7) ≤ (a0.size : Int)) = true := decide_eq_true c9
      clear c9
      simp only [Option.some.injEq, Prod.mk.injEq] at H
      obtain ⟨rfl, rfl, rfl⟩ := H
      go_enter Try.func120, Try.ntmps120
      go_wp2_with (first | (go_at_call 126; (with_reducible refine (stringslite_Index.calls a0 a1 t148 _ A3.out).mono ?_); rintro e w' ⟨rfl, ⟨nd, rfl⟩⟩))
      repeat (go_quiet (fail); try go_wp2_with (fail))
      go_ret3
      exact ⟨by first | rfl | (simp [*]; done), by repeat (first | exact Drawn0.refl _ | apply Drawn0.step)⟩
     ·rw [if_neg c9] at H
      exact absurd H (by simp)
    ·rw [if_neg c8] at H
     exact absurd H (by simp)
   ·rw [if_neg c6] at H
    exact absurd H (by simp)
  ·rw [if_neg c5] at H
   exact absurd H (by simp)
 ·rw [if_neg c4] at H
  have c4b0 : decide (0 ≤ t148) = false := decide_eq_false c4
  clear c4
  simp only [Option.some.injEq, Prod.mk.injEq] at H
  obtain ⟨rfl, rfl, rfl⟩ := H
  go_enter Try.func120, Try.ntmps120
  go_wp2_with (first | (go_at_call 126; (with_reducible refine (stringslite_Index.calls a0 a1 t148 _ A3.out).mono ?_); rintro e w' ⟨rfl, ⟨nd, rfl⟩⟩))
  repeat (go_quiet (fail); try go_wp2_with (fail))
  go_ret3
  exact ⟨by first | rfl | (simp [*]; done), by repeat (first | exact Drawn0.refl _ | apply Drawn0.step)⟩


def strings_Cut.f (a0 : ByteArray) (a1 : ByteArray) : Option (ByteArray × ByteArray × Bool) := (stringslite_Cut.f a0 a1).bind fun bt149 => (some (bt149.1, bt149.2.1, bt149.2.2))
set_option maxHeartbeats 8000000 in
set_option maxRecDepth 100000 in
theorem strings_Cut.calls (a0 : ByteArray) (a1 : ByteArray) (r1 : ByteArray) (r2 : ByteArray) (r3 : Bool) (w : World) (h : strings_Cut.f a0 a1 = some (r1, r2, r3)) :
  Calls Try.prog 102 #[.string a0, .string a1] w fun e w' => e = .returned (.tuple #[.string r1, .string r2, .bool r3]) ∧ Drawn0 w w' := by
 have H : ((stringslite_Cut.f a0 a1).bind fun bt149 => (some (bt149.1, bt149.2.1, bt149.2.2))) = some (r1, r2, r3) := h
 clear h
 replace H := Option.bind_eq_some_iff.mp H
 obtain ⟨⟨t149, t150, t151⟩, A30, H⟩ := H
 replace H : (some (t149, t150, t151)) = some (r1, r2, r3) := H
 have A3 := aM A30
 clear A30
 simp only [Option.some.injEq, Prod.mk.injEq] at H
 obtain ⟨rfl, rfl, rfl⟩ := H
 go_enter Try.func102, Try.ntmps102
 go_wp2_with (first | ((with_reducible refine gate_callee (f := 120) rfl ?_); refine goesL_ (some 9) rfl rfl Try.func120 (by kernel_rfl) rfl #[.string a0, .string a1] rfl (by (try simp only [List.map_toArray, List.map_cons, List.map_nil]); rfl) ?_; (with_reducible refine (stringslite_Cut.calls a0 a1 t149 t150 t151 _ A3.out).mono ?_); rintro e w' ⟨rfl, ⟨nd, rfl⟩⟩; refine ⟨_, rfl, ?_⟩))
 go_ret3
 exact ⟨by first | rfl | (simp [*]; done), by repeat (first | exact Drawn0.refl _ | apply Drawn0.step)⟩


def stringslite_HasSuffix.f (a0 : ByteArray) (a1 : ByteArray) : Option (Bool) := if (a0.size : Int) ≥ (a1.size : Int) then (if 0 ≤ (wrap64 ((a0.size : Int) - (a1.size : Int))) then (if (wrap64 ((a0.size : Int) - (a1.size : Int))) ≤ (a0.size : Int) then (some ((a0.extract ((wrap64 ((a0.size : Int) - (a1.size : Int))) : Int).toNat a0.size).toList == a1.toList)) else (none)) else (none)) else (some false)
set_option maxHeartbeats 8000000 in
set_option maxRecDepth 100000 in
theorem stringslite_HasSuffix.calls (a0 : ByteArray) (a1 : ByteArray) (r : Bool) (w : World) (h : stringslite_HasSuffix.f a0 a1 = some r) :
  Calls Try.prog 127 #[.string a0, .string a1] w fun e w' => e = .returned (.bool r) ∧ Drawn0 w w' := by
 have H : (if (a0.size : Int) ≥ (a1.size : Int) then (if 0 ≤ (wrap64 ((a0.size : Int) - (a1.size : Int))) then (if (wrap64 ((a0.size : Int) - (a1.size : Int))) ≤ (a0.size : Int) then (some ((a0.extract ((wrap64 ((a0.size : Int) - (a1.size : Int))) : Int).toNat a0.size).toList == a1.toList)) else (none)) else (none)) else (some false)) = some r := h
 clear h
 by_cases c3 : (a0.size : Int) ≥ (a1.size : Int)
 ·rw [if_pos c3] at H
  have c3b0 : decide ((a1.size : Int) ≤ (a0.size : Int)) = true := decide_eq_true c3
  have c3b1 : decide (a1.size ≤ a0.size) = true := decide_eq_true (Int.ofNat_le.mp c3)
  clear c3
  obtain ⟨ji4, hji4⟩ : ∃ j_ : Int, (wrap64 ((a0.size : Int) - (a1.size : Int))) = j_ := ⟨_, rfl⟩
  replace H : (if 0 ≤ (ji4) then (if (ji4) ≤ (a0.size : Int) then (some ((a0.extract ((ji4) : Int).toNat a0.size).toList == a1.toList)) else (none)) else (none)) = some r := by first | (rw [hji4] at H; exact H)
  have hji4w : (IntKind.i64.wrap ((a0.size : Int) - (a1.size : Int))) = ji4 := (i64_w _).trans hji4
  by_cases c5 : 0 ≤ (ji4)
  ·rw [if_pos c5] at H
   have c5b0 := eq_true c5
   have c5b1 : decide (0 ≤ (ji4)) = true := decide_eq_true c5
   clear c5
   by_cases c6 : (ji4) ≤ (a0.size : Int)
   ·rw [if_pos c6] at H
    have c6b0 := eq_true c6
    have c6b1 : decide ((ji4) ≤ (a0.size : Int)) = true := decide_eq_true c6
    clear c6
    obtain rfl := Option.some.inj H
    go_enter Try.func127, Try.ntmps127
    go_wp2
    go_ret
    exact ⟨by first | rfl | (simp [*]; done), by repeat (exact Drawn0.refl _)⟩
   ·rw [if_neg c6] at H
    exact absurd H (by simp)
  ·rw [if_neg c5] at H
   exact absurd H (by simp)
 ·rw [if_neg c3] at H
  have c3b0 : decide ((a1.size : Int) ≤ (a0.size : Int)) = false := decide_eq_false c3
  have c3b1 : decide (a1.size ≤ a0.size) = false := decide_eq_false (fun h => c3 (Int.ofNat_le.mpr h))
  clear c3
  obtain rfl := Option.some.inj H
  go_enter Try.func127, Try.ntmps127
  go_wp2
  go_ret
  exact ⟨by first | rfl | (simp [*]; done), by repeat (exact Drawn0.refl _)⟩


def stringslite_CutSuffix.f (a0 : ByteArray) (a1 : ByteArray) : Option (ByteArray × Bool) := (stringslite_HasSuffix.f a0 a1).bind fun t152 => (if t152 = true then (if 0 ≤ (wrap64 ((a0.size : Int) - (a1.size : Int))) then (if (wrap64 ((a0.size : Int) - (a1.size : Int))) ≤ (a0.size : Int) then (some (a0.extract 0 ((wrap64 ((a0.size : Int) - (a1.size : Int))) : Int).toNat, true)) else (none)) else (none)) else (some (a0, false)))
set_option maxHeartbeats 8000000 in
set_option maxRecDepth 100000 in
theorem stringslite_CutSuffix.calls (a0 : ByteArray) (a1 : ByteArray) (r1 : ByteArray) (r2 : Bool) (w : World) (h : stringslite_CutSuffix.f a0 a1 = some (r1, r2)) :
  Calls Try.prog 121 #[.string a0, .string a1] w fun e w' => e = .returned (.tuple #[.string r1, .bool r2]) ∧ Drawn0 w w' := by
 have H : ((stringslite_HasSuffix.f a0 a1).bind fun t152 => (if t152 = true then (if 0 ≤ (wrap64 ((a0.size : Int) - (a1.size : Int))) then (if (wrap64 ((a0.size : Int) - (a1.size : Int))) ≤ (a0.size : Int) then (some (a0.extract 0 ((wrap64 ((a0.size : Int) - (a1.size : Int))) : Int).toNat, true)) else (none)) else (none)) else (some (a0, false)))) = some (r1, r2) := h
 clear h
 replace H := Option.bind_eq_some_iff.mp H
 obtain ⟨t152, A30, H⟩ := H
 replace H : (if t152 = true then (if 0 ≤ (wrap64 ((a0.size : Int) - (a1.size : Int))) then (if (wrap64 ((a0.size : Int) - (a1.size : Int))) ≤ (a0.size : Int) then (some (a0.extract 0 ((wrap64 ((a0.size : Int) - (a1.size : Int))) : Int).toNat, true)) else (none)) else (none)) else (some (a0, false))) = some (r1, r2) := H
 have A3 := aM A30
 clear A30
 by_cases c4 : t152 = true
 ·subst c4
  replace H : (if 0 ≤ (wrap64 ((a0.size : Int) - (a1.size : Int))) then (if (wrap64 ((a0.size : Int) - (a1.size : Int))) ≤ (a0.size : Int) then (some (a0.extract 0 ((wrap64 ((a0.size : Int) - (a1.size : Int))) : Int).toNat, true)) else (none)) else (none)) = some (r1, r2) := by rw [if_pos rfl] at H; exact H
  obtain ⟨ji5, hji5⟩ : ∃ j_ : Int, (wrap64 ((a0.size : Int) - (a1.size : Int))) = j_ := ⟨_, rfl⟩
  replace H : (if 0 ≤ (ji5) then (if (ji5) ≤ (a0.size : Int) then (some (a0.extract 0 ((ji5) : Int).toNat, true)) else (none)) else (none)) = some (r1, r2) := by first | (rw [hji5] at H; exact H)
  have hji5w : (IntKind.i64.wrap ((a0.size : Int) - (a1.size : Int))) = ji5 := (i64_w _).trans hji5
  by_cases c6 : 0 ≤ (ji5)
  ·rw [if_pos c6] at H
   have c6b0 := eq_true c6
   have c6b1 : decide (0 ≤ (ji5)) = true := decide_eq_true c6
   clear c6
   by_cases c7 : (ji5) ≤ (a0.size : Int)
   ·rw [if_pos c7] at H
    have c7b0 := eq_true c7
    have c7b1 : decide ((ji5) ≤ (a0.size : Int)) = true := decide_eq_true c7
    clear c7
    simp only [Option.some.injEq, Prod.mk.injEq] at H
    obtain ⟨rfl, rfl⟩ := H
    go_enter Try.func121, Try.ntmps121
    go_wp2_with (first | ((with_reducible refine gate_callee (f := 127) rfl ?_); refine goesL_ (some 8) rfl rfl Try.func127 (by kernel_rfl) rfl #[.string a0, .string a1] rfl (by (try simp only [List.map_toArray, List.map_cons, List.map_nil]); rfl) ?_; (with_reducible refine (stringslite_HasSuffix.calls a0 a1 true _ A3.out).mono ?_); rintro e w' ⟨rfl, ⟨nd, rfl⟩⟩; refine ⟨_, rfl, ?_⟩))
    go_ret2
    exact ⟨by first | rfl | (simp [*]; done), by repeat (first | exact Drawn0.refl _ | apply Drawn0.step)⟩
   ·rw [if_neg c7] at H
    exact absurd H (by simp)
  ·rw [if_neg c6] at H
   exact absurd H (by simp)
 ·replace c4 := Bool.eq_false_iff.mpr c4
  subst c4
  replace H : (some (a0, false)) = some (r1, r2) := by rw [if_neg (show ¬ (false = true) by decide)] at H; exact H
  simp only [Option.some.injEq, Prod.mk.injEq] at H
  obtain ⟨rfl, rfl⟩ := H
  go_enter Try.func121, Try.ntmps121
  go_wp2_with (first | ((with_reducible refine gate_callee (f := 127) rfl ?_); refine goesL_ (some 8) rfl rfl Try.func127 (by kernel_rfl) rfl #[.string a0, .string a1] rfl (by (try simp only [List.map_toArray, List.map_cons, List.map_nil]); rfl) ?_; (with_reducible refine (stringslite_HasSuffix.calls a0 a1 false _ A3.out).mono ?_); rintro e w' ⟨rfl, ⟨nd, rfl⟩⟩; refine ⟨_, rfl, ?_⟩))
  go_ret2
  exact ⟨by first | rfl | (simp [*]; done), by repeat (first | exact Drawn0.refl _ | apply Drawn0.step)⟩


def strings_CutSuffix.f (a0 : ByteArray) (a1 : ByteArray) : Option (ByteArray × Bool) := (stringslite_CutSuffix.f a0 a1).bind fun bt153 => (some (bt153.1, bt153.2))
set_option maxHeartbeats 8000000 in
set_option maxRecDepth 100000 in
theorem strings_CutSuffix.calls (a0 : ByteArray) (a1 : ByteArray) (r1 : ByteArray) (r2 : Bool) (w : World) (h : strings_CutSuffix.f a0 a1 = some (r1, r2)) :
  Calls Try.prog 103 #[.string a0, .string a1] w fun e w' => e = .returned (.tuple #[.string r1, .bool r2]) ∧ Drawn0 w w' := by
 have H : ((stringslite_CutSuffix.f a0 a1).bind fun bt153 => (some (bt153.1, bt153.2))) = some (r1, r2) := h
 clear h
 replace H := Option.bind_eq_some_iff.mp H
 obtain ⟨⟨t153, t154⟩, A30, H⟩ := H
 replace H : (some (t153, t154)) = some (r1, r2) := H
 have A3 := aM A30
 clear A30
 simp only [Option.some.injEq, Prod.mk.injEq] at H
 obtain ⟨rfl, rfl⟩ := H
 go_enter Try.func103, Try.ntmps103
 go_wp2_with (first | ((with_reducible refine gate_callee (f := 121) rfl ?_); refine goesL_ (some 8) rfl rfl Try.func121 (by kernel_rfl) rfl #[.string a0, .string a1] rfl (by (try simp only [List.map_toArray, List.map_cons, List.map_nil]); rfl) ?_; (with_reducible refine (stringslite_CutSuffix.calls a0 a1 t153 t154 _ A3.out).mono ?_); rintro e w' ⟨rfl, ⟨nd, rfl⟩⟩; refine ⟨_, rfl, ?_⟩))
 go_ret2
 exact ⟨by first | rfl | (simp [*]; done), by repeat (first | exact Drawn0.refl _ | apply Drawn0.step)⟩


/-- The signs of a text: all are '0' or '1', and there are at most 60; false otherwise. -/
def impl_signs.ok (l : List UInt8) : Bool := l.all fun c => c == 48 || c == 49
def impl_signs.f (a0 : ByteArray) : Option (List Bool × Bool) :=
 if a0.size < 140737488355328 then
  if impl_signs.ok a0.data.toList then some (a0.data.toList.map (· == 49), decide ((a0.size : Int) ≤ 60)) else some ([], false)
 else none
theorem impl_signs.take (l : List UInt8) (k : Nat) (h : k < l.length) : l.take (k + 1) = l.take k ++ [l.getD k 0] := by
 rw [List.take_succ_eq_append_getElem h]; simp [List.getD, List.getElem?_eq_getElem h]
theorem impl_signs.step (l : List UInt8) (k : Nat) (h : k < l.length) (h0 : impl_signs.ok (l.take k) = true) (hc : l.getD k 0 = 48 ∨ l.getD k 0 = 49) : impl_signs.ok (l.take (k + 1)) = true := by
 rw [impl_signs.take l k h]
 unfold impl_signs.ok at *
 rw [List.all_append, h0]
 simp only [List.all_cons, List.all_nil, Bool.and_true, Bool.true_and]
 rcases hc with hc | hc <;> rw [hc] <;> rfl
theorem impl_signs.stop (l : List UInt8) (k : Nat) (h : k < l.length) (h1 : l.getD k 0 ≠ 48) (h2 : l.getD k 0 ≠ 49) : impl_signs.ok l = false := by
 unfold impl_signs.ok
 rw [List.all_eq_false]
 refine ⟨l.getD k 0, ?_, ?_⟩
 ·simp [List.getD, List.getElem?_eq_getElem h]
 ·simp only [Bool.or_eq_true, beq_iff_eq, not_or]; exact ⟨h1, h2⟩
theorem impl_signs.byte (b : UInt8) (n : Nat) (hn : n < 256) : b = UInt8.ofNat n ↔ (b.toNat : Int) = n := by
 constructor
 ·rintro rfl; simp; omega
 ·intro h
  have : b.toNat = n := by exact_mod_cast h
  subst this; simp
set_option maxHeartbeats 1000000 in
set_option maxRecDepth 100000 in
theorem impl_signs.calls (a0 : ByteArray) (r1 : List Bool) (r2 : Bool) (w : World) (h : impl_signs.f a0 = some (r1, r2)) :
  Calls Try.prog 104 #[.string a0] w fun e w' => ∃ v0_ : Value, e = .returned (.tuple #[v0_, .bool r2]) ∧ Kd.R Kd.bool 4 w' w.heap.size (fun _ => True) v0_ r1 ∧ Below w.heap.size w w' := by
 unfold impl_signs.f at h
 split at h
 case isFalse => cases h
 rename_i hs
 have H := Lib.hid h
 clear h
 have hrun := Lib.run_convert_string_bytes (P := Try.prog) w 9 22 5 a0 Try.underlying9 Try.underlying22 Try.underlying5
 have hl : a0.data.toList.length = a0.size := Array.length_toList
 have HL := Lib.hid hl
 clear hl
 have HC := Lib.hid (Lib.bytesWorld_cell w 5 a0)
 have HZ := Lib.hid (Lib.bytesWorld_size w 5 a0)
 have HB0 : Aside0 (Below w.heap.size w (Lib.bytesWorld w 5 a0)) := ⟨⟨rfl, rfl, rfl, by have := HZ.out; omega, fun j hj => Lib.bytesWorld_at_old w 5 a0 j hj⟩⟩
 generalize grownCap w a0.size 0 5 = cp at hrun
 generalize Lib.bytesWorld w 5 a0 = w1 at *
 have G0 : Aside0 (w.heap.size ≤ w1.heap.size) := ⟨by have := HZ.out; omega⟩
 go_enter Try.func104, Try.ntmps104
 go_wp2
 clear hrun
 go_loopw [4, 10] (fun v4 v10 w' => ∃ k : Nat, k ≤ a0.size ∧ v10 = .int .i64 k ∧ Aside0 (impl_signs.ok (a0.data.toList.take k) = true) ∧ Aside0 (Kd.R Kd.bool 4 w' w1.heap.size (fun _ => True) v4 ((a0.data.toList.take k).map (· == 49))) ∧ Aside0 (Below w1.heap.size w1 w')) (fun _ v10 _ => a0.size - (intOf v10).toNat)
 case atStart => exact ⟨0, Nat.zero_le _, rfl, ⟨rfl⟩, ⟨Kd.R_nil _ _ _ _ _⟩, ⟨Below.refl _ _⟩⟩
 case round =>
  obtain ⟨k, hk, rfl, HO, HR, HB⟩ := hrel
  by_cases hlt : k < a0.size
  ·have hcell : wr.cell? ⟨w.heap.size, k, none⟩ = some (.int .u8 ((a0.data.toList.getD k 0).toNat : Int)) := by
    rw [← HC.out k hlt]
    exact HB.out.cell (p := ⟨w.heap.size, k, none⟩) (by have := HZ.out; simp; omega)
   have hstep := impl_signs.take a0.data.toList k (by rw [HL.out]; exact hlt)
   by_cases h48 : a0.data.toList.getD k 0 = 48 ∨ a0.data.toList.getD k 0 = 49
   ·have HN := Lib.hid (impl_signs.step _ _ (by rw [HL.out]; exact hlt) HO.out h48)
    have hlt' : decide ((k : Int) < (a0.size : Int)) = true := by simpa using hlt
    rcases h48 with h48 | h48
    ·rw [h48] at hcell hstep
     have HS := Lib.hid hstep
     clear hstep h48
     go_wp2_with (first | ((with_reducible refine gate_builtin (b := .append) (xs := #[.tmp 20, .tmp 23]) rfl ?_); at_builtin; refine Kd.R_append Kd.bool (w0 := w1) w1.heap.size rfl (.tmp 20) (.tmp 23) 58 4 (.bool false) 1 rfl Try.underlying58 info4 rfl (by decide) (by omega) u4 ((a0.data.toList.take k).map (· == 49)) false [.bool false] (fun _ => True) (fun _ => False) rfl rfl ?aP (fun _ hk => hk.elim) ?aF ?aO ?aB ?aS ?aL ?_; (case aP => exact rfl); (case aB => exact HB.out); (case aF => exact (fun _ _ => trivial)); (case aO => exact HR.out); (case aS => exact HB.out.size); (case aL => simp only [List.length_map, List.length_take]; omega); intro v105 w10 ho hb hg hat; clear HB HR; have HB := aM hb; have HR := aM ho; clear ho hb hg hat))
     go_roundw
     case rel => exact ⟨k + 1, by omega, by go_num, ⟨HN.out⟩, ⟨by rw [HS.out, List.map_append]; exact HR.out⟩, HB⟩
     case measure => simp [intOf]; omega
    ·rw [h48] at hcell hstep
     have HS := Lib.hid hstep
     clear hstep h48
     go_wp2_with (first | ((with_reducible refine gate_builtin (b := .append) (xs := #[.tmp 20, .tmp 23]) rfl ?_); at_builtin; refine Kd.R_append Kd.bool (w0 := w1) w1.heap.size rfl (.tmp 20) (.tmp 23) 58 4 (.bool false) 1 rfl Try.underlying58 info4 rfl (by decide) (by omega) u4 ((a0.data.toList.take k).map (· == 49)) true [.bool true] (fun _ => True) (fun _ => False) rfl rfl ?aP2 (fun _ hk => hk.elim) ?aF2 ?aO2 ?aB2 ?aS2 ?aL2 ?_; (case aP2 => exact rfl); (case aB2 => exact HB.out); (case aF2 => exact (fun _ _ => trivial)); (case aO2 => exact HR.out); (case aS2 => exact HB.out.size); (case aL2 => simp only [List.length_map, List.length_take]; omega); intro v105 w10 ho hb hg hat; clear HB HR; have HB := aM hb; have HR := aM ho; clear ho hb hg hat))
     go_roundw
     case rel => exact ⟨k + 1, by omega, by go_num, ⟨HN.out⟩, ⟨by rw [HS.out, List.map_append]; exact HR.out⟩, HB⟩
     case measure => simp [intOf]; omega
   ·have HN := Lib.hid (impl_signs.stop a0.data.toList k (by rw [HL.out]; exact hlt) (fun h => h48 (.inl h)) (fun h => h48 (.inr h)))
    have hv := @impl_signs.byte
    have n48 : ¬ ((a0.data.toList.getD k 0).toNat : Int) = 48 := fun e => h48 (.inl ((impl_signs.byte _ 48 (by omega)).2 e))
    have n49 : ¬ ((a0.data.toList.getD k 0).toNat : Int) = 49 := fun e => h48 (.inr ((impl_signs.byte _ 49 (by omega)).2 e))
    clear hv hstep h48
    generalize (a0.data.toList.getD k 0).toNat = c at hcell n48 n49
    have m48 : ((c : Int) != 48) = true := by simpa using n48
    have m49 : ((c : Int) != 49) = true := by simpa using n49
    clear n48 n49
    go_wp2
    have HX := H.out
    rw [HN.out] at HX
    simp only [Bool.false_eq_true, if_false, Option.some.injEq, Prod.mk.injEq] at HX
    obtain ⟨rfl, rfl⟩ := HX
    go_ret2
    exact ⟨_, rfl, Kd.R_nil _ _ _ _ _, below_then HB0.out G0.out HB.out⟩
  ·obtain rfl : k = a0.size := by omega
   have hok := HO.out
   have hR := HR.out
   rw [List.take_of_length_le (by rw [HL.out]; exact Nat.le_refl _)] at hok hR
   have HX := H.out
   rw [if_pos hok] at HX
   simp only [Option.some.injEq, Prod.mk.injEq] at HX
   obtain ⟨rfl, rfl⟩ := HX
   have HN := Lib.hid (Kd.R_reads hR)
   have HR' := Lib.hid hR
   clear hok hR
   obtain ⟨A, c, rfl, hlc, _⟩ := HN.out
   clear HN HR
   have HS : ((a0.data.toList.map (· == 49)).length) = a0.size := by rw [List.length_map, HL.out]
   rw [HS] at *
   clear HS
   go_wp2
   go_ret2
   have hR2 := HR'.out
   rw [List.length_map, HL.out] at hR2
   exact ⟨_, rfl, Kd.R_lower hR2 G0.out, below_then HB0.out G0.out HB.out⟩

def impl_setOf.f (a0 : ByteArray) : Option (List Bool × List Bool × Bool) := (strings_Cut.f a0 (⟨#[40]⟩ : ByteArray)).bind fun bt156 => ((strings_CutSuffix.f bt156.2.1 (⟨#[41]⟩ : ByteArray)).bind fun bt159 => ((impl_signs.f bt156.1).bind fun bt161 => ((impl_signs.f bt159.1).bind fun bt165 => (if bt156.2.2 = true then (if bt159.2 = true then (if bt161.2 = true then (if bt165.2 = true then (some (bt161.1, bt165.1, decide ((bt165.1.length : Int) > 0))) else (some (bt161.1, bt165.1, false))) else (some (bt161.1, bt165.1, false))) else (some (bt161.1, bt165.1, false))) else (some (bt161.1, bt165.1, false))))))
set_option maxHeartbeats 8000000 in
set_option maxRecDepth 100000 in
theorem impl_setOf.calls (a0 : ByteArray) (r1 : List Bool) (r2 : List Bool) (r3 : Bool) (w : World) (h : impl_setOf.f a0 = some (r1, r2, r3)) :
  Calls Try.prog 60 #[.string a0] w fun e w' => ∃ v0_ v1_ : Value, e = .returned (.tuple #[.agg #[v0_, v1_], .bool r3]) ∧ Kd.R Kd.bool 4 w' w.heap.size (fun k_ => some k_ ≠ (v1_ : Value).ownBlock) v0_ r1 ∧ Kd.R Kd.bool 4 w' w.heap.size (fun k_ => some k_ ≠ (v0_ : Value).ownBlock) v1_ r2 ∧ Below w.heap.size w w' := by
 have hu60 := Try.underlying60
 have HB := aM (Below.refl w.heap.size w)
 have H : ((strings_Cut.f a0 (⟨#[40]⟩ : ByteArray)).bind fun bt156 => ((strings_CutSuffix.f bt156.2.1 (⟨#[41]⟩ : ByteArray)).bind fun bt159 => ((impl_signs.f bt156.1).bind fun bt161 => ((impl_signs.f bt159.1).bind fun bt165 => (if bt156.2.2 = true then (if bt159.2 = true then (if bt161.2 = true then (if bt165.2 = true then (some (bt161.1, bt165.1, decide ((bt165.1.length : Int) > 0))) else (some (bt161.1, bt165.1, false))) else (some (bt161.1, bt165.1, false))) else (some (bt161.1, bt165.1, false))) else (some (bt161.1, bt165.1, false))))))) = some (r1, r2, r3) := h
 clear h
 replace H := Option.bind_eq_some_iff.mp H
 obtain ⟨⟨t156, t157, t158⟩, A20, H⟩ := H
 replace H : ((strings_CutSuffix.f t157 (⟨#[41]⟩ : ByteArray)).bind fun bt159 => ((impl_signs.f t156).bind fun bt161 => ((impl_signs.f bt159.1).bind fun bt165 => (if t158 = true then (if bt159.2 = true then (if bt161.2 = true then (if bt165.2 = true then (some (bt161.1, bt165.1, decide ((bt165.1.length : Int) > 0))) else (some (bt161.1, bt165.1, false))) else (some (bt161.1, bt165.1, false))) else (some (bt161.1, bt165.1, false))) else (some (bt161.1, bt165.1, false)))))) = some (r1, r2, r3) := H
 have A2 := aM A20
 clear A20
 replace H := Option.bind_eq_some_iff.mp H
 obtain ⟨⟨t159, t160⟩, A30, H⟩ := H
 replace H : ((impl_signs.f t156).bind fun bt161 => ((impl_signs.f t159).bind fun bt165 => (if t158 = true then (if t160 = true then (if bt161.2 = true then (if bt165.2 = true then (some (bt161.1, bt165.1, decide ((bt165.1.length : Int) > 0))) else (some (bt161.1, bt165.1, false))) else (some (bt161.1, bt165.1, false))) else (some (bt161.1, bt165.1, false))) else (some (bt161.1, bt165.1, false))))) = some (r1, r2, r3) := H
 have A3 := aM A30
 clear A30
 replace H := Option.bind_eq_some_iff.mp H
 obtain ⟨⟨t161, t162⟩, A40, H⟩ := H
 replace H : ((impl_signs.f t159).bind fun bt165 => (if t158 = true then (if t160 = true then (if t162 = true then (if bt165.2 = true then (some (t161, bt165.1, decide ((bt165.1.length : Int) > 0))) else (some (t161, bt165.1, false))) else (some (t161, bt165.1, false))) else (some (t161, bt165.1, false))) else (some (t161, bt165.1, false)))) = some (r1, r2, r3) := H
 have A4 := aM A40
 clear A40
 replace H := Option.bind_eq_some_iff.mp H
 obtain ⟨⟨t165, t166⟩, A50, H⟩ := H
 replace H : (if t158 = true then (if t160 = true then (if t162 = true then (if t166 = true then (some (t161, t165, decide ((t165.length : Int) > 0))) else (some (t161, t165, false))) else (some (t161, t165, false))) else (some (t161, t165, false))) else (some (t161, t165, false))) = some (r1, r2, r3) := H
 have A5 := aM A50
 clear A50
 by_cases c6 : t158 = true
 ·subst c6
  replace H : (if t160 = true then (if t162 = true then (if t166 = true then (some (t161, t165, decide ((t165.length : Int) > 0))) else (some (t161, t165, false))) else (some (t161, t165, false))) else (some (t161, t165, false))) = some (r1, r2, r3) := by rw [if_pos rfl] at H; exact H
  by_cases c7 : t160 = true
  ·subst c7
   replace H : (if t162 = true then (if t166 = true then (some (t161, t165, decide ((t165.length : Int) > 0))) else (some (t161, t165, false))) else (some (t161, t165, false))) = some (r1, r2, r3) := by rw [if_pos rfl] at H; exact H
   by_cases c8 : t162 = true
   ·subst c8
    replace H : (if t166 = true then (some (t161, t165, decide ((t165.length : Int) > 0))) else (some (t161, t165, false))) = some (r1, r2, r3) := by rw [if_pos rfl] at H; exact H
    by_cases c9 : t166 = true
    all_goals
     first
     |replace c9 := Bool.eq_false_iff.mpr c9
     |skip
     subst c9
     first
     |replace H : (some (t161, t165, decide ((t165.length : Int) > 0))) = some (r1, r2, r3) := by rw [if_pos rfl] at H; exact H
     |replace H : (some (t161, t165, false)) = some (r1, r2, r3) := by rw [if_neg (show ¬ (false = true) by decide)] at H; exact H
     simp only [Option.some.injEq, Prod.mk.injEq] at H
     obtain ⟨rfl, rfl, rfl⟩ := H
     go_enter Try.func60, Try.ntmps60
     go_wp2_with (first | ((with_reducible refine gate_dst (N := 2) rfl ?_); (try (refine gate_guard (by rfl) ?_; dsimp only)); refine box_event ?hg (N := 2) ?hd (cs := #[.slice none 0 0, .slice none 0 0]) (t := 60) ?hr ?_; (case hd => rfl); (case hg => rfl); (case hr => first | (go_simp; done)); intro gb155 hg w10 hbox hb; have BK155 := aM hbox; have GW155 := aM ((by rw [hg]; exact (below_size HB.out) : w.heap.size ≤ gb155)); have GE155 := aM ((by rw [hg]; exact (below_size HB.out) : w.heap.size ≤ gb155)); replace HB := aM (below_step HB.out hb); clear hb hbox hg) | ((with_reducible refine gate_callee (f := 102) rfl ?_); refine goesL_ (some 15) rfl rfl Try.func102 (by kernel_rfl) rfl #[.string a0, .string (⟨#[40]⟩ : ByteArray)] rfl (by (try simp only [List.map_toArray, List.map_cons, List.map_nil]); rfl) ?_; (with_reducible refine (strings_Cut.calls a0 (⟨#[40]⟩ : ByteArray) t156 t157 true _ A2.out).mono ?_); rintro e w' ⟨rfl, ⟨nd, rfl⟩⟩; refine ⟨_, rfl, ?_⟩; (try (rw [drewN_self w10]; generalize hq_ : World.drewN w10 _ = w10; have n0_ : Aside0 (w10.heap[gb155]? = some (.cells #[.slice none 0 0, .slice none 0 0] 60 (0, 0))) := ⟨by rw [← hq_]; exact (by (with_reducible repeat (refine kN ?_ _)); exact BK155.out)⟩; have n1_ : Aside0 (Below w.heap.size w w10) := ⟨by rw [← hq_]; exact (by repeat (first | (with_reducible first | exact HB.out | apply bN)))⟩; clear BK155 HB hq_; have BK155 := n0_; have HB := n1_; clear n0_ n1_))) | ((with_reducible refine gate_callee (f := 103) rfl ?_); refine goesL_ (some 21) rfl rfl Try.func103 (by kernel_rfl) rfl #[.string t157, .string (⟨#[41]⟩ : ByteArray)] rfl (by (try simp only [List.map_toArray, List.map_cons, List.map_nil]); rfl) ?_; (with_reducible refine (strings_CutSuffix.calls t157 (⟨#[41]⟩ : ByteArray) t159 true _ A3.out).mono ?_); rintro e w' ⟨rfl, ⟨nd, rfl⟩⟩; refine ⟨_, rfl, ?_⟩; (try (rw [drewN_self w10]; generalize hq_ : World.drewN w10 _ = w10; have n0_ : Aside0 (w10.heap[gb155]? = some (.cells #[.slice none 0 0, .slice none 0 0] 60 (0, 0))) := ⟨by rw [← hq_]; exact (by (with_reducible repeat (refine kN ?_ _)); exact BK155.out)⟩; have n1_ : Aside0 (Below w.heap.size w w10) := ⟨by rw [← hq_]; exact (by repeat (first | (with_reducible first | exact HB.out | apply bN)))⟩; clear BK155 HB hq_; have BK155 := n0_; have HB := n1_; clear n0_ n1_))) | ((with_reducible refine gate_callee (f := 104) rfl ?_); refine goesL_ (some 26) rfl rfl Try.func104 (by kernel_rfl) rfl #[.string t156] rfl (by (try simp only [List.map_toArray, List.map_cons, List.map_nil]); rfl) ?_; (with_reducible refine (impl_signs.calls t156 t161 true _ A4.out).mono ?_); rintro e w11 ⟨v163, rfl, ho0, hb⟩; refine ⟨_, rfl, ?_⟩; have HO164 := aM (Kd.R_lower ho0 (below_size HB.out)); replace BK155 := aM (blk_below (g := gb155) (o := .cells #[.slice none 0 0, .slice none 0 0] 60 (0, 0)) BK155.out hb); replace HB := aM (below_step HB.out hb); (try clear hb); (try clear ho0)) | ((with_reducible refine gate_callee (f := 104) rfl ?_); refine goesL_ (some 31) rfl rfl Try.func104 (by kernel_rfl) rfl #[.string t159] rfl (by (try simp only [List.map_toArray, List.map_cons, List.map_nil]); rfl) ?_; (with_reducible refine (impl_signs.calls t159 t165 _ _ A5.out).mono ?_); rintro e w12 ⟨v167, rfl, ho0, hb⟩; refine ⟨_, rfl, ?_⟩; have HO168 := aM (Kd.R_lower (Kd.R_new' ho0 (Kd.R_lt HO164.out)) (below_size HB.out)); replace HO164 := aM (Kd.R_elder' HO164.out (Kd.R_base ho0) hb); replace BK155 := aM (blk_below (g := gb155) (o := .cells #[.slice none 0 0, .slice none 0 0] 60 (0, 0)) BK155.out hb); replace HB := aM (below_step HB.out hb); (try clear hb); (try clear ho0); obtain ⟨Ao13, co13, eo13⟩ := Kd.R_slice HO168.out; subst eo13; obtain ⟨Ao14, co14, eo14⟩ := Kd.R_slice HO164.out; subst eo14; have hcz15_0 : w12.cell? ⟨gb155, 0, none⟩ = some (.slice none 0 0) := (blk_cell BK155.out 0).trans rfl; have hcz15_1 : w12.cell? ⟨gb155, 1, none⟩ = some (.slice none 0 0) := (blk_cell BK155.out 1).trans rfl; have hfz15_0 := blk_frozen BK155.out 0; have hfz15_1 := blk_frozen BK155.out 1))
     refine bodyPost_ret (results_ct rfl _ _ gb155 60 #[.slice Ao14 t161.length co14, .slice Ao13 t165.length co13] (0, 0) _ rfl (by refine blk_put (cs := #[.slice Ao14 t161.length co14, .slice none 0 0]) ?_ 1 _ rfl; refine blk_put (cs := #[.slice none 0 0, .slice none 0 0]) ?_ 0 _ rfl; exact BK155.out) Try.underlying60 rfl (by kernel_rfl)) rfl ?_
     first
     |exact ⟨_, _, by first | (simp [errW_none, errW_some]; exact ⟨rfl, rfl⟩) | (simp [*, errW_none, errW_some] <;> rfl), by exact Kd.R_mono (Kd.R_far (p := ⟨gb155, 1, none⟩) (Kd.R_far (p := ⟨gb155, 0, none⟩) (Kd.R_types HO164.out BK155.out (by decide)) (fun _ hk => hk.2) (.slice Ao14 t161.length co14)) (fun _ hk => hk.2) (.slice Ao13 t165.length co13)) (fun _ hk => hk.1.2), by exact Kd.R_mono (Kd.R_far (p := ⟨gb155, 1, none⟩) (Kd.R_far (p := ⟨gb155, 0, none⟩) (Kd.R_types HO168.out BK155.out (by decide)) (fun _ hk => hk.2) (.slice Ao14 t161.length co14)) (fun _ hk => hk.2) (.slice Ao13 t165.length co13)) (fun _ hk => hk.1.2), by repeat (first | (with_reducible first | exact HB.out | refine bS ?_ GE155.out))⟩
     |exact ⟨_, _, by first | rfl | (simp [*, errW_none, errW_some] <;> rfl), by exact Kd.R_mono (Kd.R_far (p := ⟨gb155, 1, none⟩) (Kd.R_far (p := ⟨gb155, 0, none⟩) (Kd.R_types HO164.out BK155.out (by decide)) (fun _ hk => hk.2) (.slice Ao14 t161.length co14)) (fun _ hk => hk.2) (.slice Ao13 t165.length co13)) (fun _ hk => hk.1.2), by exact Kd.R_mono (Kd.R_far (p := ⟨gb155, 1, none⟩) (Kd.R_far (p := ⟨gb155, 0, none⟩) (Kd.R_types HO168.out BK155.out (by decide)) (fun _ hk => hk.2) (.slice Ao14 t161.length co14)) (fun _ hk => hk.2) (.slice Ao13 t165.length co13)) (fun _ hk => hk.1.2), by repeat (first | (with_reducible first | exact HB.out | refine bS ?_ GE155.out))⟩
   ·replace c8 := Bool.eq_false_iff.mpr c8
    subst c8
    replace H : (some (t161, t165, false)) = some (r1, r2, r3) := by rw [if_neg (show ¬ (false = true) by decide)] at H; exact H
    simp only [Option.some.injEq, Prod.mk.injEq] at H
    obtain ⟨rfl, rfl, rfl⟩ := H
    go_enter Try.func60, Try.ntmps60
    go_wp2_with (first | ((with_reducible refine gate_dst (N := 2) rfl ?_); (try (refine gate_guard (by rfl) ?_; dsimp only)); refine box_event ?hg (N := 2) ?hd (cs := #[.slice none 0 0, .slice none 0 0]) (t := 60) ?hr ?_; (case hd => rfl); (case hg => rfl); (case hr => first | (go_simp; done)); intro gb155 hg w22 hbox hb; have BK155 := aM hbox; have GW155 := aM ((by rw [hg]; exact (below_size HB.out) : w.heap.size ≤ gb155)); have GE155 := aM ((by rw [hg]; exact (below_size HB.out) : w.heap.size ≤ gb155)); replace HB := aM (below_step HB.out hb); clear hb hbox hg) | ((with_reducible refine gate_callee (f := 102) rfl ?_); refine goesL_ (some 15) rfl rfl Try.func102 (by kernel_rfl) rfl #[.string a0, .string (⟨#[40]⟩ : ByteArray)] rfl (by (try simp only [List.map_toArray, List.map_cons, List.map_nil]); rfl) ?_; (with_reducible refine (strings_Cut.calls a0 (⟨#[40]⟩ : ByteArray) t156 t157 true _ A2.out).mono ?_); rintro e w' ⟨rfl, ⟨nd, rfl⟩⟩; refine ⟨_, rfl, ?_⟩; (try (rw [drewN_self w22]; generalize hq_ : World.drewN w22 _ = w22; have n0_ : Aside0 (w22.heap[gb155]? = some (.cells #[.slice none 0 0, .slice none 0 0] 60 (0, 0))) := ⟨by rw [← hq_]; exact (by (with_reducible repeat (refine kN ?_ _)); exact BK155.out)⟩; have n1_ : Aside0 (Below w.heap.size w w22) := ⟨by rw [← hq_]; exact (by repeat (first | (with_reducible first | exact HB.out | apply bN)))⟩; clear BK155 HB hq_; have BK155 := n0_; have HB := n1_; clear n0_ n1_))) | ((with_reducible refine gate_callee (f := 103) rfl ?_); refine goesL_ (some 21) rfl rfl Try.func103 (by kernel_rfl) rfl #[.string t157, .string (⟨#[41]⟩ : ByteArray)] rfl (by (try simp only [List.map_toArray, List.map_cons, List.map_nil]); rfl) ?_; (with_reducible refine (strings_CutSuffix.calls t157 (⟨#[41]⟩ : ByteArray) t159 true _ A3.out).mono ?_); rintro e w' ⟨rfl, ⟨nd, rfl⟩⟩; refine ⟨_, rfl, ?_⟩; (try (rw [drewN_self w22]; generalize hq_ : World.drewN w22 _ = w22; have n0_ : Aside0 (w22.heap[gb155]? = some (.cells #[.slice none 0 0, .slice none 0 0] 60 (0, 0))) := ⟨by rw [← hq_]; exact (by (with_reducible repeat (refine kN ?_ _)); exact BK155.out)⟩; have n1_ : Aside0 (Below w.heap.size w w22) := ⟨by rw [← hq_]; exact (by repeat (first | (with_reducible first | exact HB.out | apply bN)))⟩; clear BK155 HB hq_; have BK155 := n0_; have HB := n1_; clear n0_ n1_))) | ((with_reducible refine gate_callee (f := 104) rfl ?_); refine goesL_ (some 26) rfl rfl Try.func104 (by kernel_rfl) rfl #[.string t156] rfl (by (try simp only [List.map_toArray, List.map_cons, List.map_nil]); rfl) ?_; (with_reducible refine (impl_signs.calls t156 t161 false _ A4.out).mono ?_); rintro e w23 ⟨v163, rfl, ho0, hb⟩; refine ⟨_, rfl, ?_⟩; have HO164 := aM (Kd.R_lower ho0 (below_size HB.out)); replace BK155 := aM (blk_below (g := gb155) (o := .cells #[.slice none 0 0, .slice none 0 0] 60 (0, 0)) BK155.out hb); replace HB := aM (below_step HB.out hb); (try clear hb); (try clear ho0)) | ((with_reducible refine gate_callee (f := 104) rfl ?_); refine goesL_ (some 31) rfl rfl Try.func104 (by kernel_rfl) rfl #[.string t159] rfl (by (try simp only [List.map_toArray, List.map_cons, List.map_nil]); rfl) ?_; (with_reducible refine (impl_signs.calls t159 t165 t166 _ A5.out).mono ?_); rintro e w24 ⟨v167, rfl, ho0, hb⟩; refine ⟨_, rfl, ?_⟩; have HO168 := aM (Kd.R_lower (Kd.R_new' ho0 (Kd.R_lt HO164.out)) (below_size HB.out)); replace HO164 := aM (Kd.R_elder' HO164.out (Kd.R_base ho0) hb); replace BK155 := aM (blk_below (g := gb155) (o := .cells #[.slice none 0 0, .slice none 0 0] 60 (0, 0)) BK155.out hb); replace HB := aM (below_step HB.out hb); (try clear hb); (try clear ho0); obtain ⟨Ao25, co25, eo25⟩ := Kd.R_slice HO168.out; subst eo25; obtain ⟨Ao26, co26, eo26⟩ := Kd.R_slice HO164.out; subst eo26; have hcz27_0 : w24.cell? ⟨gb155, 0, none⟩ = some (.slice none 0 0) := (blk_cell BK155.out 0).trans rfl; have hcz27_1 : w24.cell? ⟨gb155, 1, none⟩ = some (.slice none 0 0) := (blk_cell BK155.out 1).trans rfl; have hfz27_0 := blk_frozen BK155.out 0; have hfz27_1 := blk_frozen BK155.out 1))
    refine bodyPost_ret (results_ct rfl _ _ gb155 60 #[.slice Ao26 t161.length co26, .slice Ao25 t165.length co25] (0, 0) _ rfl (by refine blk_put (cs := #[.slice Ao26 t161.length co26, .slice none 0 0]) ?_ 1 _ rfl; refine blk_put (cs := #[.slice none 0 0, .slice none 0 0]) ?_ 0 _ rfl; exact BK155.out) Try.underlying60 rfl (by kernel_rfl)) rfl ?_
    exact ⟨_, _, by first | rfl | (simp [*, errW_none, errW_some] <;> rfl), by exact Kd.R_mono (Kd.R_far (p := ⟨gb155, 1, none⟩) (Kd.R_far (p := ⟨gb155, 0, none⟩) (Kd.R_types HO164.out BK155.out (by decide)) (fun _ hk => hk.2) (.slice Ao26 t161.length co26)) (fun _ hk => hk.2) (.slice Ao25 t165.length co25)) (fun _ hk => hk.1.2), by exact Kd.R_mono (Kd.R_far (p := ⟨gb155, 1, none⟩) (Kd.R_far (p := ⟨gb155, 0, none⟩) (Kd.R_types HO168.out BK155.out (by decide)) (fun _ hk => hk.2) (.slice Ao26 t161.length co26)) (fun _ hk => hk.2) (.slice Ao25 t165.length co25)) (fun _ hk => hk.1.2), by repeat (first | (with_reducible first | exact HB.out | refine bS ?_ GE155.out))⟩
  ·replace c7 := Bool.eq_false_iff.mpr c7
   subst c7
   replace H : (some (t161, t165, false)) = some (r1, r2, r3) := by rw [if_neg (show ¬ (false = true) by decide)] at H; exact H
   simp only [Option.some.injEq, Prod.mk.injEq] at H
   obtain ⟨rfl, rfl, rfl⟩ := H
   go_enter Try.func60, Try.ntmps60
   go_wp2_with (first | ((with_reducible refine gate_dst (N := 2) rfl ?_); (try (refine gate_guard (by rfl) ?_; dsimp only)); refine box_event ?hg (N := 2) ?hd (cs := #[.slice none 0 0, .slice none 0 0]) (t := 60) ?hr ?_; (case hd => rfl); (case hg => rfl); (case hr => first | (go_simp; done)); intro gb155 hg w28 hbox hb; have BK155 := aM hbox; have GW155 := aM ((by rw [hg]; exact (below_size HB.out) : w.heap.size ≤ gb155)); have GE155 := aM ((by rw [hg]; exact (below_size HB.out) : w.heap.size ≤ gb155)); replace HB := aM (below_step HB.out hb); clear hb hbox hg) | ((with_reducible refine gate_callee (f := 102) rfl ?_); refine goesL_ (some 15) rfl rfl Try.func102 (by kernel_rfl) rfl #[.string a0, .string (⟨#[40]⟩ : ByteArray)] rfl (by (try simp only [List.map_toArray, List.map_cons, List.map_nil]); rfl) ?_; (with_reducible refine (strings_Cut.calls a0 (⟨#[40]⟩ : ByteArray) t156 t157 true _ A2.out).mono ?_); rintro e w' ⟨rfl, ⟨nd, rfl⟩⟩; refine ⟨_, rfl, ?_⟩; (try (rw [drewN_self w28]; generalize hq_ : World.drewN w28 _ = w28; have n0_ : Aside0 (w28.heap[gb155]? = some (.cells #[.slice none 0 0, .slice none 0 0] 60 (0, 0))) := ⟨by rw [← hq_]; exact (by (with_reducible repeat (refine kN ?_ _)); exact BK155.out)⟩; have n1_ : Aside0 (Below w.heap.size w w28) := ⟨by rw [← hq_]; exact (by repeat (first | (with_reducible first | exact HB.out | apply bN)))⟩; clear BK155 HB hq_; have BK155 := n0_; have HB := n1_; clear n0_ n1_))) | ((with_reducible refine gate_callee (f := 103) rfl ?_); refine goesL_ (some 21) rfl rfl Try.func103 (by kernel_rfl) rfl #[.string t157, .string (⟨#[41]⟩ : ByteArray)] rfl (by (try simp only [List.map_toArray, List.map_cons, List.map_nil]); rfl) ?_; (with_reducible refine (strings_CutSuffix.calls t157 (⟨#[41]⟩ : ByteArray) t159 false _ A3.out).mono ?_); rintro e w' ⟨rfl, ⟨nd, rfl⟩⟩; refine ⟨_, rfl, ?_⟩; (try (rw [drewN_self w28]; generalize hq_ : World.drewN w28 _ = w28; have n0_ : Aside0 (w28.heap[gb155]? = some (.cells #[.slice none 0 0, .slice none 0 0] 60 (0, 0))) := ⟨by rw [← hq_]; exact (by (with_reducible repeat (refine kN ?_ _)); exact BK155.out)⟩; have n1_ : Aside0 (Below w.heap.size w w28) := ⟨by rw [← hq_]; exact (by repeat (first | (with_reducible first | exact HB.out | apply bN)))⟩; clear BK155 HB hq_; have BK155 := n0_; have HB := n1_; clear n0_ n1_))) | ((with_reducible refine gate_callee (f := 104) rfl ?_); refine goesL_ (some 26) rfl rfl Try.func104 (by kernel_rfl) rfl #[.string t156] rfl (by (try simp only [List.map_toArray, List.map_cons, List.map_nil]); rfl) ?_; (with_reducible refine (impl_signs.calls t156 t161 t162 _ A4.out).mono ?_); rintro e w29 ⟨v163, rfl, ho0, hb⟩; refine ⟨_, rfl, ?_⟩; have HO164 := aM (Kd.R_lower ho0 (below_size HB.out)); replace BK155 := aM (blk_below (g := gb155) (o := .cells #[.slice none 0 0, .slice none 0 0] 60 (0, 0)) BK155.out hb); replace HB := aM (below_step HB.out hb); (try clear hb); (try clear ho0)) | ((with_reducible refine gate_callee (f := 104) rfl ?_); refine goesL_ (some 31) rfl rfl Try.func104 (by kernel_rfl) rfl #[.string t159] rfl (by (try simp only [List.map_toArray, List.map_cons, List.map_nil]); rfl) ?_; (with_reducible refine (impl_signs.calls t159 t165 t166 _ A5.out).mono ?_); rintro e w30 ⟨v167, rfl, ho0, hb⟩; refine ⟨_, rfl, ?_⟩; have HO168 := aM (Kd.R_lower (Kd.R_new' ho0 (Kd.R_lt HO164.out)) (below_size HB.out)); replace HO164 := aM (Kd.R_elder' HO164.out (Kd.R_base ho0) hb); replace BK155 := aM (blk_below (g := gb155) (o := .cells #[.slice none 0 0, .slice none 0 0] 60 (0, 0)) BK155.out hb); replace HB := aM (below_step HB.out hb); (try clear hb); (try clear ho0); obtain ⟨Ao31, co31, eo31⟩ := Kd.R_slice HO168.out; subst eo31; obtain ⟨Ao32, co32, eo32⟩ := Kd.R_slice HO164.out; subst eo32; have hcz33_0 : w30.cell? ⟨gb155, 0, none⟩ = some (.slice none 0 0) := (blk_cell BK155.out 0).trans rfl; have hcz33_1 : w30.cell? ⟨gb155, 1, none⟩ = some (.slice none 0 0) := (blk_cell BK155.out 1).trans rfl; have hfz33_0 := blk_frozen BK155.out 0; have hfz33_1 := blk_frozen BK155.out 1))
   refine bodyPost_ret (results_ct rfl _ _ gb155 60 #[.slice Ao32 t161.length co32, .slice Ao31 t165.length co31] (0, 0) _ rfl (by refine blk_put (cs := #[.slice Ao32 t161.length co32, .slice none 0 0]) ?_ 1 _ rfl; refine blk_put (cs := #[.slice none 0 0, .slice none 0 0]) ?_ 0 _ rfl; exact BK155.out) Try.underlying60 rfl (by kernel_rfl)) rfl ?_
   exact ⟨_, _, by first | rfl | (simp [*, errW_none, errW_some] <;> rfl), by exact Kd.R_mono (Kd.R_far (p := ⟨gb155, 1, none⟩) (Kd.R_far (p := ⟨gb155, 0, none⟩) (Kd.R_types HO164.out BK155.out (by decide)) (fun _ hk => hk.2) (.slice Ao32 t161.length co32)) (fun _ hk => hk.2) (.slice Ao31 t165.length co31)) (fun _ hk => hk.1.2), by exact Kd.R_mono (Kd.R_far (p := ⟨gb155, 1, none⟩) (Kd.R_far (p := ⟨gb155, 0, none⟩) (Kd.R_types HO168.out BK155.out (by decide)) (fun _ hk => hk.2) (.slice Ao32 t161.length co32)) (fun _ hk => hk.2) (.slice Ao31 t165.length co31)) (fun _ hk => hk.1.2), by repeat (first | (with_reducible first | exact HB.out | refine bS ?_ GE155.out))⟩
 ·replace c6 := Bool.eq_false_iff.mpr c6
  subst c6
  replace H : (some (t161, t165, false)) = some (r1, r2, r3) := by rw [if_neg (show ¬ (false = true) by decide)] at H; exact H
  simp only [Option.some.injEq, Prod.mk.injEq] at H
  obtain ⟨rfl, rfl, rfl⟩ := H
  go_enter Try.func60, Try.ntmps60
  go_wp2_with (first | ((with_reducible refine gate_dst (N := 2) rfl ?_); (try (refine gate_guard (by rfl) ?_; dsimp only)); refine box_event ?hg (N := 2) ?hd (cs := #[.slice none 0 0, .slice none 0 0]) (t := 60) ?hr ?_; (case hd => rfl); (case hg => rfl); (case hr => first | (go_simp; done)); intro gb155 hg w34 hbox hb; have BK155 := aM hbox; have GW155 := aM ((by rw [hg]; exact (below_size HB.out) : w.heap.size ≤ gb155)); have GE155 := aM ((by rw [hg]; exact (below_size HB.out) : w.heap.size ≤ gb155)); replace HB := aM (below_step HB.out hb); clear hb hbox hg) | ((with_reducible refine gate_callee (f := 102) rfl ?_); refine goesL_ (some 15) rfl rfl Try.func102 (by kernel_rfl) rfl #[.string a0, .string (⟨#[40]⟩ : ByteArray)] rfl (by (try simp only [List.map_toArray, List.map_cons, List.map_nil]); rfl) ?_; (with_reducible refine (strings_Cut.calls a0 (⟨#[40]⟩ : ByteArray) t156 t157 false _ A2.out).mono ?_); rintro e w' ⟨rfl, ⟨nd, rfl⟩⟩; refine ⟨_, rfl, ?_⟩; (try (rw [drewN_self w34]; generalize hq_ : World.drewN w34 _ = w34; have n0_ : Aside0 (w34.heap[gb155]? = some (.cells #[.slice none 0 0, .slice none 0 0] 60 (0, 0))) := ⟨by rw [← hq_]; exact (by (with_reducible repeat (refine kN ?_ _)); exact BK155.out)⟩; have n1_ : Aside0 (Below w.heap.size w w34) := ⟨by rw [← hq_]; exact (by repeat (first | (with_reducible first | exact HB.out | apply bN)))⟩; clear BK155 HB hq_; have BK155 := n0_; have HB := n1_; clear n0_ n1_))) | ((with_reducible refine gate_callee (f := 103) rfl ?_); refine goesL_ (some 21) rfl rfl Try.func103 (by kernel_rfl) rfl #[.string t157, .string (⟨#[41]⟩ : ByteArray)] rfl (by (try simp only [List.map_toArray, List.map_cons, List.map_nil]); rfl) ?_; (with_reducible refine (strings_CutSuffix.calls t157 (⟨#[41]⟩ : ByteArray) t159 t160 _ A3.out).mono ?_); rintro e w' ⟨rfl, ⟨nd, rfl⟩⟩; refine ⟨_, rfl, ?_⟩; (try (rw [drewN_self w34]; generalize hq_ : World.drewN w34 _ = w34; have n0_ : Aside0 (w34.heap[gb155]? = some (.cells #[.slice none 0 0, .slice none 0 0] 60 (0, 0))) := ⟨by rw [← hq_]; exact (by (with_reducible repeat (refine kN ?_ _)); exact BK155.out)⟩; have n1_ : Aside0 (Below w.heap.size w w34) := ⟨by rw [← hq_]; exact (by repeat (first | (with_reducible first | exact HB.out | apply bN)))⟩; clear BK155 HB hq_; have BK155 := n0_; have HB := n1_; clear n0_ n1_))) | ((with_reducible refine gate_callee (f := 104) rfl ?_); refine goesL_ (some 26) rfl rfl Try.func104 (by kernel_rfl) rfl #[.string t156] rfl (by (try simp only [List.map_toArray, List.map_cons, List.map_nil]); rfl) ?_; (with_reducible refine (impl_signs.calls t156 t161 t162 _ A4.out).mono ?_); rintro e w35 ⟨v163, rfl, ho0, hb⟩; refine ⟨_, rfl, ?_⟩; have HO164 := aM (Kd.R_lower ho0 (below_size HB.out)); replace BK155 := aM (blk_below (g := gb155) (o := .cells #[.slice none 0 0, .slice none 0 0] 60 (0, 0)) BK155.out hb); replace HB := aM (below_step HB.out hb); (try clear hb); (try clear ho0)) | ((with_reducible refine gate_callee (f := 104) rfl ?_); refine goesL_ (some 31) rfl rfl Try.func104 (by kernel_rfl) rfl #[.string t159] rfl (by (try simp only [List.map_toArray, List.map_cons, List.map_nil]); rfl) ?_; (with_reducible refine (impl_signs.calls t159 t165 t166 _ A5.out).mono ?_); rintro e w36 ⟨v167, rfl, ho0, hb⟩; refine ⟨_, rfl, ?_⟩; have HO168 := aM (Kd.R_lower (Kd.R_new' ho0 (Kd.R_lt HO164.out)) (below_size HB.out)); replace HO164 := aM (Kd.R_elder' HO164.out (Kd.R_base ho0) hb); replace BK155 := aM (blk_below (g := gb155) (o := .cells #[.slice none 0 0, .slice none 0 0] 60 (0, 0)) BK155.out hb); replace HB := aM (below_step HB.out hb); (try clear hb); (try clear ho0); obtain ⟨Ao37, co37, eo37⟩ := Kd.R_slice HO168.out; subst eo37; obtain ⟨Ao38, co38, eo38⟩ := Kd.R_slice HO164.out; subst eo38; have hcz39_0 : w36.cell? ⟨gb155, 0, none⟩ = some (.slice none 0 0) := (blk_cell BK155.out 0).trans rfl; have hcz39_1 : w36.cell? ⟨gb155, 1, none⟩ = some (.slice none 0 0) := (blk_cell BK155.out 1).trans rfl; have hfz39_0 := blk_frozen BK155.out 0; have hfz39_1 := blk_frozen BK155.out 1))
  refine bodyPost_ret (results_ct rfl _ _ gb155 60 #[.slice Ao38 t161.length co38, .slice Ao37 t165.length co37] (0, 0) _ rfl (by refine blk_put (cs := #[.slice Ao38 t161.length co38, .slice none 0 0]) ?_ 1 _ rfl; refine blk_put (cs := #[.slice none 0 0, .slice none 0 0]) ?_ 0 _ rfl; exact BK155.out) Try.underlying60 rfl (by kernel_rfl)) rfl ?_
  exact ⟨_, _, by first | rfl | (simp [*, errW_none, errW_some] <;> rfl), by exact Kd.R_mono (Kd.R_far (p := ⟨gb155, 1, none⟩) (Kd.R_far (p := ⟨gb155, 0, none⟩) (Kd.R_types HO164.out BK155.out (by decide)) (fun _ hk => hk.2) (.slice Ao38 t161.length co38)) (fun _ hk => hk.2) (.slice Ao37 t165.length co37)) (fun _ hk => hk.1.2), by exact Kd.R_mono (Kd.R_far (p := ⟨gb155, 1, none⟩) (Kd.R_far (p := ⟨gb155, 0, none⟩) (Kd.R_types HO168.out BK155.out (by decide)) (fun _ hk => hk.2) (.slice Ao38 t161.length co38)) (fun _ hk => hk.2) (.slice Ao37 t165.length co37)) (fun _ hk => hk.1.2), by repeat (first | (with_reducible first | exact HB.out | refine bS ?_ GE155.out))⟩


def impl_turns.l0 : Nat → List Bool → Int → Int → Int → Option (Bool)
 | 0, _, _, _, _ => none
 | k + 1, x0, x1, x7, x8 => if x8 < x7 then (if 0 ≤ x8 then (if x8 < (x0.length : Int) then (if x1 = 0 then (none) else (if 0 ≤ (Int.tmod x8 x1) then (if (Int.tmod x8 x1) < (x0.length : Int) then (if ((rdOf false x0 x8) != (rdOf false x0 (Int.tmod x8 x1))) = true then (some false) else (impl_turns.l0 k x0 x1 x7 (wrap64 (x8 + 1)))) else (none)) else (none))) else (none)) else (none)) else (if x1 = 0 then (none) else (some (((x0.length : Int) % x1) == 0)))
def impl_turns.f (k : Nat) (l0 : List Bool) (a1 : Int) : Option (Bool) := impl_turns.l0 k l0 a1 (l0.length : Int) 0
theorem impl_turns.mono_l : ∀ k, (∀ y0 y1 y2 y3, LeO (impl_turns.l0 k y0 y1 y2 y3) (impl_turns.l0 (k + 1) y0 y1 y2 y3))
 | 0 => fun _ _ _ _ r h => by simp [impl_turns.l0] at h
 | k + 1 => by
  have ih0 := impl_turns.mono_l k
  ·intro y0 y1 y2 y3
   unfold impl_turns.l0
   repeat' first | (with_reducible exact ih0 _ _ _ _) | (with_reducible exact LeO.refl _) | (with_reducible refine LeO.ite ?_ ?_)
theorem impl_turns.mono : ∀ a0 a1 k, LeO (impl_turns.f k a0 a1) (impl_turns.f (k + 1) a0 a1) := by
 intro a0 a1 k
 have ih0 := impl_turns.mono_l k
 unfold impl_turns.f
 repeat' (with_reducible exact ih0 _ _ _ _)
set_option maxHeartbeats 8000000 in
set_option maxRecDepth 100000 in
theorem impl_turns.calls (k : Nat) (A0 : Option Addr) (c0 : Nat) (l0 : List Bool) (a1 : Int) (r : Bool) (w : World) (hr0 : Kd.C Kd.bool w A0 l0.length l0) (hc0 : l0.length ≤ c0) (h : impl_turns.f k l0 a1 = some r) :
  Calls Try.prog 122 #[.slice A0 l0.length c0, .int .i64 a1] w fun e w' => e = .returned (.bool r) ∧ Drawn0 w w' := by
 have HR0 := aM hr0
 have HC0 := aM hc0
 clear hr0 hc0
 have H : (impl_turns.l0 k l0 a1 (l0.length : Int) 0) = some r := h
 clear h
 have H' := aM H
 clear H
 go_enter Try.func122, Try.ntmps122
 go_wp2
 repeat (go_quiet (fail); try go_wp2)
 go_loopg [8] k (fun kq v8 w' => ∃ (x8_1 : Int), v8 = .int .i64 x8_1 ∧ Aside0 (impl_turns.l0 kq l0 a1 (l0.length : Int) x8_1 = some r) ∧ Aside0 (kq ≤ k) ∧ Drawn0 w w')
 case atStart => exact ⟨(0), (by rfl), H', ⟨Nat.le_refl _⟩, by repeat (exact Drawn0.refl _)⟩
 case round =>
  clear H'
  obtain ⟨x8_1, rfl, HA, HK1, ⟨m1, rfl⟩⟩ := hrel
  cases gk with
  | zero => exact absurd HA.out (by simp [impl_turns.l0])
  | succ k1 =>
   have H := HA.out
   clear HA
   simp only [impl_turns.l0] at H
   by_cases c3 : x8_1 < (l0.length : Int)
   ·rw [if_pos c3] at H
    have c3b0 : decide (x8_1 < (l0.length : Int)) = true := decide_eq_true c3
    clear c3
    by_cases c4 : 0 ≤ x8_1
    ·rw [if_pos c4] at H
     have c4b0 : decide (0 ≤ x8_1) = true := decide_eq_true c4
     clear c4
     by_cases c5 : x8_1 < (l0.length : Int)
     ·rw [if_pos c5] at H
      have c5b0 : decide (x8_1 < (l0.length : Int)) = true := decide_eq_true c5
      clear c5
      by_cases c6 : a1 = 0
      ·rw [if_pos c6] at H
       exact absurd H (by simp)
      ·rw [if_neg c6] at H
       have c6b0 : (a1 == 0) = false := beq_eq_false_iff_ne.mpr c6
       have c6b1 : (a1 != 0) = true := bne_iff_ne.mpr c6
       obtain ⟨ji7, hji7⟩ : ∃ j_ : Int, (Int.tmod x8_1 a1) = j_ := ⟨_, rfl⟩
       replace H : (if 0 ≤ (ji7) then (if (ji7) < (l0.length : Int) then (if ((rdOf false l0 x8_1) != (rdOf false l0 (ji7))) = true then (some false) else (impl_turns.l0 k1 l0 a1 (l0.length : Int) (wrap64 (x8_1 + 1)))) else (none)) else (none)) = some r := by first | (rw [hji7] at H; exact H)
       by_cases c8 : 0 ≤ (ji7)
       ·rw [if_pos c8] at H
        have c8b0 : decide (0 ≤ (ji7)) = true := decide_eq_true c8
        clear c8
        by_cases c9 : (ji7) < (l0.length : Int)
        ·rw [if_pos c9] at H
         have c9b0 : decide ((ji7) < (l0.length : Int)) = true := decide_eq_true c9
         clear c9
         by_cases c10 : ((rdOf false l0 x8_1) != (rdOf false l0 (ji7))) = true
         all_goals
          first
          |rw [if_pos c10] at H
           have c10b0 : ((rdOf false l0 x8_1) != (rdOf false l0 (ji7))) = true := c10
           (try (have c10b1 : decide ((rdOf false l0 x8_1) = (rdOf false l0 (ji7))) = false := by simpa using c10))
           (try (have c10b2 : ((rdOf false l0 x8_1) == (rdOf false l0 (ji7))) = false := by simpa using c10))
           (try (have c10b3 : ¬ ((rdOf false l0 x8_1) = (rdOf false l0 (ji7))) := by simpa using c10))
          |rw [if_neg c10] at H
           have c10b0 : ((rdOf false l0 x8_1) != (rdOf false l0 (ji7))) = false := by simpa using c10
           (try (have c10b1 : decide ((rdOf false l0 x8_1) = (rdOf false l0 (ji7))) = true := by simpa using c10))
           (try (have c10b2 : ((rdOf false l0 x8_1) == (rdOf false l0 (ji7))) = true := by simpa using c10))
          clear c10
          first
          |obtain rfl := Option.some.inj H
          |have H' := aM H
           clear H
          have p169 : 0 ≤ (x8_1 : Int) := of_decide_eq_true (by (with_reducible assumption))
          have q169 : x8_1 < (l0.length : Int) := of_decide_eq_true (by (with_reducible assumption))
          obtain ⟨ad169, e169, hx169_0⟩ := Kd.at_bool HR0.out x8_1 p169 q169
          cases e169
          replace p169 := eq_true p169
          replace q169 := eq_true q169
          have p170 : 0 ≤ ((ji7) : Int) := of_decide_eq_true (by (with_reducible assumption))
          have q170 : (ji7) < (l0.length : Int) := of_decide_eq_true (by (with_reducible assumption))
          obtain ⟨ad170, e170, hx170_0⟩ := Kd.at_bool HR0.out (ji7) p170 q170
          obtain rfl : ad169 = ad170 := (by injection e170)
          replace p170 := eq_true p170
          replace q170 := eq_true q170
          go_wp2
          repeat (go_quiet (fail); try go_wp2)
          first
          |go_ret
           exact ⟨by first | rfl | (simp [*]; done), by repeat (first | exact Drawn0.refl _ | apply Drawn0.step)⟩
          |go_roundg k1
           case measure => have := HK1.out; omega
           case rel => exact ⟨(wrap64 (x8_1 + 1)), (by rfl), H', ⟨by have := HK1.out; omega⟩, by repeat (first | exact Drawn0.refl _ | apply Drawn0.step)⟩
        ·rw [if_neg c9] at H
         exact absurd H (by simp)
       ·rw [if_neg c8] at H
        exact absurd H (by simp)
     ·rw [if_neg c5] at H
      exact absurd H (by simp)
    ·rw [if_neg c4] at H
     exact absurd H (by simp)
   ·rw [if_neg c3] at H
    have c3b0 : decide (x8_1 < (l0.length : Int)) = false := decide_eq_false c3
    clear c3
    by_cases c11 : a1 = 0
    ·rw [if_pos c11] at H
     exact absurd H (by simp)
    ·rw [if_neg c11] at H
     have c11b0 : (a1 == 0) = false := beq_eq_false_iff_ne.mpr c11
     have c11b1 : (a1 != 0) = true := bne_iff_ne.mpr c11
     obtain rfl := Option.some.inj H
     go_wp2
     repeat (go_quiet (fail); try go_wp2)
     go_ret
     exact ⟨by first | rfl | (simp [*]; done), by repeat (first | exact Drawn0.refl _ | apply Drawn0.step)⟩


/-- A copy. -/
def slices_Clone_bool_bool.f (l0 : List Bool) : Option (List Bool) := if l0.length < 140737488355328 then some l0 else none
set_option maxHeartbeats 1000000 in
set_option maxRecDepth 100000 in
theorem slices_Clone_bool_bool.calls (A0 : Option Addr) (c0 : Nat) (l0 : List Bool) (r : List Bool) (w : World) (hr0 : Kd.C Kd.bool w A0 l0.length l0) (hc0 : l0.length ≤ c0) (h : slices_Clone_bool_bool.f l0 = some r) :
  Calls Try.prog 123 #[.slice A0 l0.length c0] w fun e w' => ∃ v0_ : Value, e = .returned (v0_) ∧ Kd.R Kd.bool 4 w' w.heap.size (fun _ => True) v0_ r ∧ Below w.heap.size w w' := by
 unfold slices_Clone_bool_bool.f at h
 split at h
 case isFalse => cases h
 rename_i hs
 obtain rfl := Option.some.inj h
 clear h
 have HR := Lib.hid hr0
 have hrun := Lib.run_eql_slice_nil (P := Try.prog) w 58 4 A0 l0.length c0 0 0 Try.underlying58
 have HC := Lib.hid (Kd.R_nil Kd.bool 4 w w.heap.size (fun _ => True))
 cases A0 with
 | none =>
  have hl : l0.length = 0 := by
   rcases Nat.eq_zero_or_pos l0.length with h | h
   ·exact h
   ·obtain ⟨ad, e, _⟩ := hr0.2.2 h
    cases e
  have hl2 : l0 = [] := List.length_eq_zero_iff.1 hl
  subst hl2
  clear hr0 hl
  simp only [List.length_nil, Option.isNone_none] at hrun
  rw [List.length_nil]
  go_enter Try.func123, Try.ntmps123
  go_wp2
  go_ret
  exact ⟨_, rfl, HC.out, Below.refl _ _⟩
 | some ad =>
  clear hr0
  simp only [Option.isNone_some] at hrun
  go_enter Try.func123, Try.ntmps123
  go_wp2_with (first | ((with_reducible refine gate_dst (N := 5) rfl ?_); refine Kd.R_lit Kd.bool _ 4 ?hg (N := 5) ?hd (xs := ([] : List Bool)) (inner := []) (ok := fun _ => True) (okp := fun _ => True) ?hr ?hp (fun _ hk => hk) trivial (Below.refl _ _) (Nat.le_refl _) (by simp) ?_; (case hd => rfl); (case hg => rfl); (case hr => first | (go_simp; done)); (case hp => exact (Reps.none _ _)); intro v102 w2 ho3 hb hg_ hnew_; clear hg_ hnew_; have HO := aM ho3; have HB := aM hb; clear ho3 hb) | ((with_reducible refine gate_builtin (b := .append) (xs := #[.tmp 5, .tmp 6]) rfl ?_); at_builtin; refine Kd.R_append_row Value.bool false (w0 := w) w.heap.size rfl (.tmp 5) (.tmp 6) 58 4 (.bool false) 1 rfl Try.underlying58 info4 rfl (by decide) _ [] l0 (some ad) l0.length c0 (fun _ => True) rfl rfl (fun _ _ => trivial) HO.out (Kd.C_below HR.out HB.out) HB.out HB.out.size (by simp; omega) ?_; intro v103 w3 ho hb hg hat; clear hg hat HB HO; have HB := aM hb; have HO := aM ho; clear ho hb))
  go_ret
  exact ⟨_, rfl, HO.out, HB.out⟩

mutual
def impl_set_tidy.l0 : Nat → Int → List Bool → List Bool → Option (List Bool × List Bool)
 | 0, _, _, _ => none
 | k + 1, x3, x172000, x172001 => (impl_turns.f k x172001 x3).bind fun t173 => (if t173 = true then ((slices_Clone_bool_bool.f x172000).bind fun t174 => (if 0 ≤ x3 then (if x3 ≤ (x172001.length : Int) then ((slices_Clone_bool_bool.f (x172001.take (x3 : Int).toNat)).bind fun t178 => (impl_set_tidy.l1 k x3 t174 t178)) else (none)) else (none))) else (impl_set_tidy.l0 k (wrap64 (x3 + 1)) x172000 x172001))
def impl_set_tidy.l1 : Nat → Int → List Bool → List Bool → Option (List Bool × List Bool)
 | 0, _, _, _ => none
 | k + 1, x3, x4, x5 => if (x4.length : Int) > 0 then (if 0 ≤ (wrap64 ((x4.length : Int) - 1)) then (if (wrap64 ((x4.length : Int) - 1)) < (x4.length : Int) then (if 0 ≤ (wrap64 (x3 - 1)) then (if (wrap64 (x3 - 1)) < (x5.length : Int) then (if ((rdOf false x4 (wrap64 ((x4.length : Int) - 1))) == (rdOf false x5 (wrap64 (x3 - 1)))) = true then (if (wrap64 ((x4.length : Int) - 1)) ≤ (x4.length : Int) then ((some (([rdOf false x5 (wrap64 (x3 - 1))] : List Bool) : List Bool)).bind fun y187 => (if (wrap64 (x3 - 1)) ≤ (x5.length : Int) then ((some (x5.take ((wrap64 (x3 - 1)) : Int).toNat : List Bool)).bind fun y190 => (if y187.length + y190.length < 140737488355328 then (impl_set_tidy.l1 k x3 (x4.take ((wrap64 ((x4.length : Int) - 1)) : Int).toNat) (y187 ++ y190)) else (none))) else (none))) else (none)) else (some (x4, x5))) else (none)) else (none)) else (none)) else (none)) else (some (x4, x5))
end
def impl_set_tidy.f (k : Nat) (l0_0 : List Bool) (l0_1 : List Bool) : Option (List Bool × List Bool) := impl_set_tidy.l0 k 1 l0_0 l0_1
theorem impl_set_tidy.mono_l : ∀ k, (∀ y0 y1 y2, LeO (impl_set_tidy.l0 k y0 y1 y2) (impl_set_tidy.l0 (k + 1) y0 y1 y2)) ∧ (∀ y0 y1 y2, LeO (impl_set_tidy.l1 k y0 y1 y2) (impl_set_tidy.l1 (k + 1) y0 y1 y2))
 | 0 => ⟨fun _ _ _ r h => by simp [impl_set_tidy.l0] at h, fun _ _ _ r h => by simp [impl_set_tidy.l1] at h⟩
 | k + 1 => by
  obtain ⟨ih0, ih1⟩ := impl_set_tidy.mono_l k
  refine ⟨?_, ?_⟩
  ·intro y0 y1 y2
   unfold impl_set_tidy.l0
   repeat' first | (with_reducible exact ih0 _ _ _) | (with_reducible exact ih1 _ _ _) | (with_reducible exact impl_turns.mono _ _ _) | (with_reducible exact LeO.refl _) | (with_reducible refine LeO.ite ?_ ?_) | (with_reducible refine LeO.bind ?_ (fun _ => ?_))
  ·intro y0 y1 y2
   unfold impl_set_tidy.l1
   repeat' first | (with_reducible exact ih1 _ _ _) | (with_reducible exact LeO.refl _) | (with_reducible refine LeO.ite ?_ ?_) | (with_reducible refine LeO.bind ?_ (fun _ => ?_))
theorem impl_set_tidy.mono : ∀ a0 a1 k, LeO (impl_set_tidy.f k a0 a1) (impl_set_tidy.f (k + 1) a0 a1) := by
 intro a0 a1 k
 obtain ⟨ih0, ih1⟩ := impl_set_tidy.mono_l k
 unfold impl_set_tidy.f
 repeat' (with_reducible exact ih0 _ _ _)
def impl_set_tidy.T4 : Bool × List (List Nat × List Nat) := (true, [([], []), ([0], [0]), ([1], [1]), ([], []), ([3], [3]), ([], []), ([4, 5], [4, 5]), ([6, 2], [6]), ([2, 7, 0, 1, 2], [2]), ([7, 8, 0, 1, 2, 3, 4, 5, 6, 7, 8], [7])])
def impl_set_tidy.B4 : List Nat := [0, 1, 3, 0, 8, 0, 56, 127, 255, 511]
theorem impl_set_tidy.tab4 : rtab .any (opsOf Try.f112 4) = impl_set_tidy.T4 := by kernel_rfl
theorem impl_set_tidy.bits4 : waitsOk impl_set_tidy.T4.2 impl_set_tidy.B4 = true := by kernel_rfl
def impl_set_tidy.T5 : Bool × List (List Nat × List Nat) := (true, [([], []), ([0], [0]), ([1], [1]), ([2], [2]), ([3], [3]), ([3], [3]), ([5, 3], [3, 5]), ([6, 3], [3, 6]), ([4, 7, 3], [3, 4, 7]), ([8, 3], [3, 8]), ([3], [3]), ([3], [3]), ([11, 3], [3, 11]), ([10, 12, 3], [3, 10, 12]), ([13, 3], [3, 13]), ([9, 14, 3], [3, 9, 14]), ([3, 15], [3, 15])])
def impl_set_tidy.B5 : List Nat := [0, 1, 3, 7, 15, 15, 47, 111, 255, 511, 15, 15, 2063, 7183, 15375, 32767, 65535]
theorem impl_set_tidy.tab5 : rtab .any (opsOf Try.f112 5) = impl_set_tidy.T5 := by kernel_rfl
theorem impl_set_tidy.bits5 : waitsOk impl_set_tidy.T5.2 impl_set_tidy.B5 = true := by kernel_rfl
def impl_set_tidy.T7 : Bool × List (List Nat × List Nat) := (true, [([], []), ([], []), ([1], [1]), ([0, 2], [0, 2]), ([3], [3]), ([4], [4]), ([], []), ([], []), ([7], [7]), ([6, 8], [6, 8]), ([5, 9], [5, 9]), ([10, 10, 0, 1, 2, 3, 4, 5, 6, 7, 8, 9, 10], [0, 6, 10])])
def impl_set_tidy.B7 : List Nat := [0, 0, 2, 7, 15, 31, 0, 0, 128, 448, 1023, 2047]
theorem impl_set_tidy.tab7 : rtab .any (opsOf Try.f112 7) = impl_set_tidy.T7 := by kernel_rfl
theorem impl_set_tidy.bits7 : waitsOk impl_set_tidy.T7.2 impl_set_tidy.B7 = true := by kernel_rfl
set_option maxHeartbeats 8000000 in
set_option maxRecDepth 100000 in
theorem impl_set_tidy.calls (k : Nat) (A0_0 : Option Addr) (c0_0 : Nat) (l0_0 : List Bool) (A0_1 : Option Addr) (c0_1 : Nat) (l0_1 : List Bool) (r1 : List Bool) (r2 : List Bool) (w : World) (hr0_0 : Kd.C Kd.bool w A0_0 l0_0.length l0_0) (hc0_0 : l0_0.length ≤ c0_0) (hr0_1 : Kd.C Kd.bool w A0_1 l0_1.length l0_1) (hc0_1 : l0_1.length ≤ c0_1) (h : impl_set_tidy.f k l0_0 l0_1 = some (r1, r2)) :
  Calls Try.prog 112 #[.agg #[.slice A0_0 l0_0.length c0_0, .slice A0_1 l0_1.length c0_1]] w fun e w' => ∃ v0_ v1_ : Value, e = .returned (.agg #[v0_, v1_]) ∧ Kd.R Kd.bool 4 w' w.heap.size (fun k_ => some k_ ≠ (v1_ : Value).ownBlock) v0_ r1 ∧ Kd.R Kd.bool 4 w' w.heap.size (fun k_ => some k_ ≠ (v0_ : Value).ownBlock) v1_ r2 ∧ Below w.heap.size w w' := by
 have hu60 := Try.underlying60
 have HR0_0 := aM hr0_0
 have HC0_0 := aM hc0_0
 clear hr0_0 hc0_0
 have HR0_1 := aM hr0_1
 have HC0_1 := aM hc0_1
 clear hr0_1 hc0_1
 have HB := aM (Below.refl w.heap.size w)
 have H : (impl_set_tidy.l0 k 1 l0_0 l0_1) = some (r1, r2) := h
 clear h
 have H' := aM H
 clear H
 go_enter Try.func112, Try.ntmps112
 go_wp2_with (first | ((with_reducible refine gate_dst (N := 1) rfl ?_); (try (refine gate_guard (by rfl) ?_; dsimp only)); refine box_event ?hg (N := 1) ?hd (cs := #[.slice A0_0 l0_0.length c0_0, .slice A0_1 l0_1.length c0_1]) (t := 60) ?hr ?_; (case hd => rfl); (case hg => rfl); (case hr => first | (go_simp; done)); intro gb171 hg w2 hbox hb; have BK171 := aM hbox; have GW171 := aM ((by rw [hg]; exact (below_size HB.out) : w.heap.size ≤ gb171)); have GE171 := aM ((by rw [hg]; exact (below_size HB.out) : w.heap.size ≤ gb171)); replace HB := aM (below_step HB.out hb); clear hb hbox hg) | ((with_reducible refine gate_dst (N := 2) rfl ?_); (try (refine gate_guard (by rfl) ?_; dsimp only)); refine box_event ?hg (N := 2) ?hd (cs := #[.slice none 0 0, .slice none 0 0]) (t := 60) ?hr ?_; (case hd => rfl); (case hg => rfl); (case hr => first | (go_simp; done)); intro gb172 hg w3 hbox hb; have BK172 := aM hbox; have GW172 := aM ((by rw [hg]; exact (below_size HB.out) : w.heap.size ≤ gb172)); have GE172 := aM ((by rw [hg]; exact (below_size HB.out) : w.heap.size ≤ gb172)); replace HB := aM (below_step HB.out hb); have NB171_172 := aM ((by rw [hg]; exact Nat.ne_of_lt (blk_lt (g := gb171) (o := .cells #[.slice A0_0 l0_0.length c0_0, .slice A0_1 l0_1.length c0_1] 60 (0, 0)) BK171.out) : gb171 ≠ gb172)); have NB172_171 := aM ((by rw [hg]; exact Nat.ne_of_gt (blk_lt (g := gb171) (o := .cells #[.slice A0_0 l0_0.length c0_0, .slice A0_1 l0_1.length c0_1] 60 (0, 0)) BK171.out) : gb172 ≠ gb171)); replace BK171 := aM (blk_below (g := gb171) (o := .cells #[.slice A0_0 l0_0.length c0_0, .slice A0_1 l0_1.length c0_1] 60 (0, 0)) BK171.out hb); clear hb hbox hg))
 go_loopg [3] k (fun kq v3 w' => ∃ (x3_1 : Int), v3 = .int .i64 x3_1 ∧ Aside0 (impl_set_tidy.l0 kq x3_1 l0_0 l0_1 = some (r1, r2)) ∧ Aside0 (kq ≤ k) ∧ Aside0 (w'.heap[gb171]? = some (.cells #[(.slice A0_0 l0_0.length c0_0), (.slice A0_1 l0_1.length c0_1)] 60 (0, 0))) ∧ Aside0 (w'.heap[gb172]? = some (.cells #[(.slice none 0 0), (.slice none 0 0)] 60 (0, 0))) ∧ Aside0 (Below w.heap.size w w'))
 case atStart => exact ⟨(1), (by rfl), H', ⟨Nat.le_refl _⟩, ⟨by exact BK171.out⟩, ⟨by exact BK172.out⟩, ⟨HB.out⟩⟩
 case round =>
  clear H'
  obtain ⟨x3_1, rfl, HA, HK1, BK171, BK172, HB⟩ := hrel
  cases gk with
  | zero => exact absurd HA.out (by simp [impl_set_tidy.l0])
  | succ k1 =>
   have H := HA.out
   clear HA
   simp only [impl_set_tidy.l0] at H
   replace H := Option.bind_eq_some_iff.mp H
   obtain ⟨t173, A40, H⟩ := H
   replace H : (if t173 = true then ((slices_Clone_bool_bool.f l0_0).bind fun t174 => (if 0 ≤ x3_1 then (if x3_1 ≤ (l0_1.length : Int) then ((slices_Clone_bool_bool.f (l0_1.take (x3_1 : Int).toNat)).bind fun t178 => (impl_set_tidy.l1 k1 x3_1 t174 t178)) else (none)) else (none))) else (impl_set_tidy.l0 k1 (wrap64 (x3_1 + 1)) l0_0 l0_1)) = some (r1, r2) := H
   have A4 := aM A40
   clear A40
   by_cases c5 : t173 = true
   ·subst c5
    replace H : ((slices_Clone_bool_bool.f l0_0).bind fun t174 => (if 0 ≤ x3_1 then (if x3_1 ≤ (l0_1.length : Int) then ((slices_Clone_bool_bool.f (l0_1.take (x3_1 : Int).toNat)).bind fun t178 => (impl_set_tidy.l1 k1 x3_1 t174 t178)) else (none)) else (none))) = some (r1, r2) := by rw [if_pos rfl] at H; exact H
    replace H := Option.bind_eq_some_iff.mp H
    obtain ⟨t174, A60, H⟩ := H
    replace H : (if 0 ≤ x3_1 then (if x3_1 ≤ (l0_1.length : Int) then ((slices_Clone_bool_bool.f (l0_1.take (x3_1 : Int).toNat)).bind fun t178 => (impl_set_tidy.l1 k1 x3_1 t174 t178)) else (none)) else (none)) = some (r1, r2) := H
    have A6 := aM A60
    clear A60
    by_cases c7 : 0 ≤ x3_1
    ·rw [if_pos c7] at H
     have c7b0 := eq_true c7
     have c7b1 : decide (0 ≤ x3_1) = true := decide_eq_true c7
     clear c7
     by_cases c8 : x3_1 ≤ (l0_1.length : Int)
     ·rw [if_pos c8] at H
      have c8b0 := eq_true c8
      have c8b1 : decide (x3_1 ≤ (l0_1.length : Int)) = true := decide_eq_true c8
      clear c8
      replace H := Option.bind_eq_some_iff.mp H
      obtain ⟨t178, A90, H⟩ := H
      replace H : (impl_set_tidy.l1 k1 x3_1 t174 t178) = some (r1, r2) := H
      have A9 := aM A90
      clear A90
      have H' := aM H
      clear H
      have hnb10 := NB171_172.out
      have hnc10 := NB172_171.out
      have hcz11_0 : wr.cell? ⟨gb171, 0, none⟩ = some (.slice A0_0 l0_0.length c0_0) := (blk_cell BK171.out 0).trans rfl
      have hcz11_1 : wr.cell? ⟨gb171, 1, none⟩ = some (.slice A0_1 l0_1.length c0_1) := (blk_cell BK171.out 1).trans rfl
      have hfz11_0 := blk_frozen BK171.out 0
      have hfz11_1 := blk_frozen BK171.out 1
      try go_wp2_with (first | ((with_reducible refine gate_callee (f := 122) rfl ?_); refine goesL_ (some 9) rfl rfl Try.func122 (by kernel_rfl) rfl #[.slice A0_1 l0_1.length c0_1, .int .i64 x3_1] rfl (by (try simp only [List.map_toArray, List.map_cons, List.map_nil]); rfl) ?_; (with_reducible refine (impl_turns.calls k1 _ _ l0_1 x3_1 true _ ?side1 ?side2 A4.out).mono ?_); (case side1 => repeat (exact (Kd.C_below HR0_1.out HB.out))); (case side2 => exact HC0_1.out); rintro e w' ⟨rfl, ⟨nd, rfl⟩⟩; refine ⟨_, rfl, ?_⟩))
      (try (rw [drewN_self wr]; generalize hq_ : World.drewN wr _ = wr; have n0_ : Aside0 (wr.heap[gb171]? = some (.cells #[.slice A0_0 l0_0.length c0_0, .slice A0_1 l0_1.length c0_1] 60 (0, 0))) := ⟨by rw [← hq_]; exact (by (with_reducible repeat (refine kN ?_ _)); exact BK171.out)⟩; have n1_ : Aside0 (wr.heap[gb172]? = some (.cells #[.slice none 0 0, .slice none 0 0] 60 (0, 0))) := ⟨by rw [← hq_]; exact (by (with_reducible repeat (refine kN ?_ _)); exact BK172.out)⟩; have n2_ : Aside0 (Below w.heap.size w wr) := ⟨by rw [← hq_]; exact (by repeat (first | (with_reducible first | exact HB.out | apply bN)))⟩; clear BK171 BK172 HB hq_; have BK171 := n0_; have BK172 := n1_; have HB := n2_; clear n0_ n1_ n2_))
      replace BK171 := aM (kD BK171.out)
      replace BK172 := aM (kD BK172.out)
      replace HB := aM (b1 HB.out)
      obtain ⟨i013, hi013, _, hsz13, _⟩ := info_parts info4
      obtain ⟨hcut13, hA13, hC13⟩ := print_take_of (P := Try.prog) Value.bool false 58 4 .i64 Try.underlying58 hi013 hsz13 A0_1 c0_1 l0_1 x3_1 (of_decide_eq_true (by (with_reducible assumption))) (of_decide_eq_true (by (with_reducible assumption))) HC0_1.out
      have HR177 := aM (Kd.C_of_reads (h1 := fun _ => rfl) (hA13 _ (Kd.reads_of_C HR0_1.out)))
      have HC177 := aM hC13
      clear hA13 hC13 hi013 hsz13
      refine start_ (n := 10) (S := fun w' => w'.cell? ⟨gb171, 0, none⟩ = some (.slice A0_0 l0_0.length c0_0) ∧ w'.cell? ⟨gb171, 1, none⟩ = some (.slice A0_1 l0_1.length c0_1)) (ds := []) #[false, false, false, false, false, false, false, false, false, false] (by kernel_rfl) rfl rfl ⟨(blk_cell BK171.out 0).trans rfl, (blk_cell BK171.out 1).trans rfl⟩ (fun hHeld => ?_); refine with_tabW impl_set_tidy.tab4 impl_set_tidy.bits4 (fun HT_ HW_ => ?_)
      generalize wr.drew = w12 at BK171 BK172 HB HR177 hHeld ⊢
      refine pure_ (i := 0) (N := some 13) (v := ?_) (a' := ?_) #[true, false, false, false, false, false, false, false, false, false] rfl rfl (any_of HT_.out (by kernel_rfl)) (fun _ _ _ h => h) (Or.inl ⟨by rfl, ?_⟩) ?_ ?_
      rotate_left
      ·intro w'
       go_simp
       with_reducible rfl
      rotate_left
      ·simp only [Act.put, sA, sZ, sS, i64_w, i32_w]
       rfl
      refine pure_ (i := 3) (N := some 16) (v := ?_) (a' := ?_) #[true, false, false, true, false, false, false, false, false, false] rfl rfl (any_of HT_.out (by kernel_rfl)) (fun _ _ _ h => h) (Or.inl ⟨by rfl, ?_⟩) ?_ ?_
      rotate_left
      ·intro w'
       go_simp
       with_reducible rfl
      rotate_left
      ·simp only [Act.put, sA, sZ, sS, i64_w, i32_w]
       rfl
      refine pure_ (i := 5) (N := some 18) (v := ?_) (a' := ?_) #[true, false, false, true, false, true, false, false, false, false] rfl rfl (any_of HT_.out (by kernel_rfl)) (fun _ _ _ h => h) (Or.inl ⟨by rfl, ?_⟩) ?_ ?_
      rotate_left
      ·intro w'
       go_simp
       with_reducible rfl
      rotate_left
      ·simp only [Act.put, sA, sZ, sS, i64_w, i32_w]
       rfl
      refine take_ (i := 1) (N := some 14) (v := ?_) (a' := ?_) #[true, true, false, true, false, true, false, false, false, false] rfl rfl (take_ofW HT_.out HW_.out (by kernel_rfl)) (fun _ _ _ h => h) (Or.inl ⟨by rfl, ?_⟩) hHeld ?_ ?_
      rotate_left
      ·rintro w' ⟨s0, s1⟩
       go_simp
       with_reducible rfl
      rotate_left
      ·simp only [Act.put, sA, sZ, sS, i64_w, i32_w]
       rfl
      refine take_ (i := 4) (N := some 17) (v := ?_) (a' := ?_) #[true, true, false, true, true, true, false, false, false, false] rfl rfl (take_ofW HT_.out HW_.out (by kernel_rfl)) (fun _ _ _ h => h) (Or.inl ⟨by rfl, ?_⟩) hHeld ?_ ?_
      rotate_left
      ·rintro w' ⟨s0, s1⟩
       go_simp
       with_reducible rfl
      rotate_left
      ·simp only [Act.put, sA, sZ, sS, i64_w, i32_w]
       rfl
      refine pure_ (i := 6) (N := some 19) (v := ?_) (a' := ?_) #[true, true, false, true, true, true, true, false, false, false] rfl rfl (any_of HT_.out (by kernel_rfl)) (fun _ _ _ h => h) (Or.inl ⟨by rfl, ?_⟩) ?_ ?_
      rotate_left
      ·intro w'
       go_simp
       with_reducible rfl
      rotate_left
      ·simp only [Act.put, sA, sZ, sS, i64_w, i32_w]
       rfl
      refine one_ (i := 2) (N := some 15) #[true, true, true, true, true, true, true, false, false, false] rfl rfl (one_of HT_.out (by kernel_rfl)) (by decide) (fun K hK => ?_)
      refine goes_ Try.func123 (by kernel_rfl) rfl #[.slice A0_0 l0_0.length c0_0] (by rfl) rfl rfl (by (try simp only [List.map_toArray, List.map_cons, List.map_nil]); rfl) ?_
      with_reducible refine (slices_Clone_bool_bool.calls _ _ l0_0 t174 _ ?side1 ?side2 A6.out).mono ?_
      (case side1 => repeat (exact (Kd.C_below HR0_0.out HB.out)))
      (case side2 => exact HC0_0.out)
      rintro e w14 ⟨v175, rfl, ho0, hb⟩
      refine ⟨_, rfl, ?_⟩
      have HO176 := aM (Kd.R_lower ho0 (below_size HB.out))
      replace BK171 := aM (blk_below (g := gb171) (o := .cells #[.slice A0_0 l0_0.length c0_0, .slice A0_1 l0_1.length c0_1] 60 (0, 0)) BK171.out hb)
      replace BK172 := aM (blk_below (g := gb172) (o := .cells #[.slice none 0 0, .slice none 0 0] 60 (0, 0)) BK172.out hb)
      replace HB := aM (below_step HB.out hb)
      (try clear hb)
      (try clear ho0)
      refine hK.out _ _ ⟨(blk_cell BK171.out 0).trans rfl, (blk_cell BK171.out 1).trans rfl⟩ (fun hHeld => ?_)
      clear hK K
      refine norm_ (a' := ?_) ?_ ?_
      rotate_left
      ·show Act.put _ (some 15) _ = _
       simp only [Act.put, sA, sZ, sS, i64_w, i32_w]
       rfl
      refine one_ (i := 7) (N := some 20) #[true, true, true, true, true, true, true, true, false, false] rfl rfl (one_of HT_.out (by kernel_rfl)) (by decide) (fun K hK => ?_)
      refine goes_ Try.func123 (by kernel_rfl) rfl #[.slice A0_1 (l0_1.take (x3_1 : Int).toNat).length c0_1] (by rfl) rfl rfl (by (try simp only [List.map_toArray, List.map_cons, List.map_nil]); first | (rw [show (l0_1.take (x3_1 : Int).toNat).length = x3_1.toNat from (by rw [List.length_take]; have h_ : (x3_1 : Int) ≤ (l0_1.length : Int) := of_decide_eq_true (by (with_reducible assumption)); omega)] <;> rfl)) ?_
      with_reducible refine (slices_Clone_bool_bool.calls _ _ (l0_1.take (x3_1 : Int).toNat) t178 _ ?side1 ?side2 A9.out).mono ?_
      (case side1 => repeat (exact (Kd.C_below HR177.out HB.out)))
      (case side2 => exact HC177.out)
      rintro e w15 ⟨v179, rfl, ho0, hb⟩
      refine ⟨_, rfl, ?_⟩
      have HO180 := aM (Kd.R_lower (Kd.R_new' ho0 (Kd.R_lt HO176.out)) (below_size HB.out))
      replace HO176 := aM (Kd.R_elder' HO176.out (Kd.R_base ho0) hb)
      replace BK171 := aM (blk_below (g := gb171) (o := .cells #[.slice A0_0 l0_0.length c0_0, .slice A0_1 l0_1.length c0_1] 60 (0, 0)) BK171.out hb)
      replace BK172 := aM (blk_below (g := gb172) (o := .cells #[.slice none 0 0, .slice none 0 0] 60 (0, 0)) BK172.out hb)
      replace HB := aM (below_step HB.out hb)
      (try clear hb)
      (try clear ho0)
      refine hK.out _ _ ⟨(blk_cell BK171.out 0).trans rfl, (blk_cell BK171.out 1).trans rfl⟩ (fun hHeld => ?_)
      clear hK K
      refine norm_ (a' := ?_) ?_ ?_
      rotate_left
      ·show Act.put _ (some 20) _ = _
       simp only [Act.put, sA, sZ, sS, i64_w, i32_w]
       rfl
      refine pure_ (i := 8) (N := some 4) (v := ?_) (a' := ?_) #[true, true, true, true, true, true, true, true, true, false] rfl rfl (any_of HT_.out (by kernel_rfl)) (fun _ _ _ h => h) (Or.inl ⟨by rfl, ?_⟩) ?_ ?_
      rotate_left
      ·intro w'
       go_simp
       with_reducible rfl
      rotate_left
      ·simp only [Act.put, sA, sZ, sS, i64_w, i32_w]
       rfl
      refine pure_ (i := 9) (N := some 5) (v := ?_) (a' := ?_) #[true, true, true, true, true, true, true, true, true, true] rfl rfl (any_of HT_.out (by kernel_rfl)) (fun _ _ _ h => h) (Or.inl ⟨by rfl, ?_⟩) ?_ ?_
      rotate_left
      ·intro w'
       go_simp
       with_reducible rfl
      rotate_left
      ·simp only [Act.put, sA, sZ, sS, i64_w, i32_w]
       rfl
      refine done_ (done_of HT_.out (by kernel_rfl)) ?_
      try go_wp2
      go_loopg [4, 5] k1 (fun kq v4 v5 w' => ∃ (x4_2 : List Bool) (x5_2 : List Bool), Aside0 (impl_set_tidy.l1 kq x3_1 x4_2 x5_2 = some (r1, r2)) ∧ Aside0 (kq ≤ k1) ∧ Aside0 (Kd.R Kd.bool 4 w' w.heap.size (fun k_ => some k_ ≠ (v5 : Value).ownBlock) v4 x4_2) ∧ Aside0 (Kd.R Kd.bool 4 w' w.heap.size (fun k_ => some k_ ≠ (v4 : Value).ownBlock) v5 x5_2) ∧ Aside0 (w'.heap[gb171]? = some (.cells #[(.slice A0_0 l0_0.length c0_0), (.slice A0_1 l0_1.length c0_1)] 60 (0, 0))) ∧ Aside0 (w'.heap[gb172]? = some (.cells #[(.slice none 0 0), (.slice none 0 0)] 60 (0, 0))) ∧ Aside0 (Below w.heap.size w w'))
      case atStart => exact ⟨(t174), (t178), H', ⟨Nat.le_refl _⟩, ⟨by exact Kd.R_mono HO176.out (fun _ hk => hk.2)⟩, ⟨by exact Kd.R_mono HO180.out (fun _ hk => hk.2)⟩, ⟨by exact BK171.out⟩, ⟨by exact BK172.out⟩, ⟨HB.out⟩⟩
      case round =>
       clear H'
       try clear c7b0
       try clear c7b1
       try clear c8b0
       try clear c8b1
       try clear hcz11_0
       try clear hcz11_1
       try clear hfz11_0
       try clear hfz11_1
       obtain ⟨x4_2, x5_2, HA, HK2, HO_4, HO_5, BK171, BK172, HB⟩ := hrel
       cases gk with
       | zero => exact absurd HA.out (by simp [impl_set_tidy.l1])
       | succ k2 =>
        have H := HA.out
        clear HA
        simp only [impl_set_tidy.l1] at H
        by_cases c16 : (x4_2.length : Int) > 0
        ·rw [if_pos c16] at H
         have c16b0 : decide (0 < (x4_2.length : Int)) = true := decide_eq_true c16
         have c16b1 : decide (0 < x4_2.length) = true := decide_eq_true (by omega)
         clear c16
         obtain ⟨ji17, hji17⟩ : ∃ j_ : Int, (wrap64 ((x4_2.length : Int) - 1)) = j_ := ⟨_, rfl⟩
         replace H : (if 0 ≤ (ji17) then (if (ji17) < (x4_2.length : Int) then (if 0 ≤ (wrap64 (x3_1 - 1)) then (if (wrap64 (x3_1 - 1)) < (x5_2.length : Int) then (if ((rdOf false x4_2 (ji17)) == (rdOf false x5_2 (wrap64 (x3_1 - 1)))) = true then (if (ji17) ≤ (x4_2.length : Int) then ((some (([rdOf false x5_2 (wrap64 (x3_1 - 1))] : List Bool) : List Bool)).bind fun y187 => (if (wrap64 (x3_1 - 1)) ≤ (x5_2.length : Int) then ((some (x5_2.take ((wrap64 (x3_1 - 1)) : Int).toNat : List Bool)).bind fun y190 => (if y187.length + y190.length < 140737488355328 then (impl_set_tidy.l1 k2 x3_1 (x4_2.take ((ji17) : Int).toNat) (y187 ++ y190)) else (none))) else (none))) else (none)) else (some (x4_2, x5_2))) else (none)) else (none)) else (none)) else (none)) = some (r1, r2) := by first | (rw [hji17] at H; exact H)
         have hji17w : (IntKind.i64.wrap ((x4_2.length : Int) - 1)) = ji17 := (i64_w _).trans hji17
         by_cases c18 : 0 ≤ (ji17)
         ·rw [if_pos c18] at H
          have c18b0 : decide (0 ≤ (ji17)) = true := decide_eq_true c18
          clear c18
          by_cases c19 : (ji17) < (x4_2.length : Int)
          ·rw [if_pos c19] at H
           have c19b0 : decide ((ji17) < (x4_2.length : Int)) = true := decide_eq_true c19
           clear c19
           obtain ⟨ji20, hji20⟩ : ∃ j_ : Int, (wrap64 (x3_1 - 1)) = j_ := ⟨_, rfl⟩
           replace H : (if 0 ≤ (ji20) then (if (ji20) < (x5_2.length : Int) then (if ((rdOf false x4_2 (ji17)) == (rdOf false x5_2 (ji20))) = true then (if (ji17) ≤ (x4_2.length : Int) then ((some (([rdOf false x5_2 (ji20)] : List Bool) : List Bool)).bind fun y187 => (if (ji20) ≤ (x5_2.length : Int) then ((some (x5_2.take ((ji20) : Int).toNat : List Bool)).bind fun y190 => (if y187.length + y190.length < 140737488355328 then (impl_set_tidy.l1 k2 x3_1 (x4_2.take ((ji17) : Int).toNat) (y187 ++ y190)) else (none))) else (none))) else (none)) else (some (x4_2, x5_2))) else (none)) else (none)) = some (r1, r2) := by first | (rw [hji20] at H; exact H)
           have hji20w : (IntKind.i64.wrap (x3_1 - 1)) = ji20 := (i64_w _).trans hji20
           by_cases c21 : 0 ≤ (ji20)
           ·rw [if_pos c21] at H
            have c21b0 : decide (0 ≤ (ji20)) = true := decide_eq_true c21
            clear c21
            by_cases c22 : (ji20) < (x5_2.length : Int)
            ·rw [if_pos c22] at H
             have c22b0 : decide ((ji20) < (x5_2.length : Int)) = true := decide_eq_true c22
             clear c22
             by_cases c23 : ((rdOf false x4_2 (ji17)) == (rdOf false x5_2 (ji20))) = true
             ·rw [if_pos c23] at H
              have c23b0 : ((rdOf false x4_2 (ji17)) == (rdOf false x5_2 (ji20))) = true := c23
              (try (have c23b1 : decide ((rdOf false x4_2 (ji17)) = (rdOf false x5_2 (ji20))) = true := by simpa using c23))
              (try (have c23b2 : ((rdOf false x4_2 (ji17)) == (rdOf false x5_2 (ji20))) = true := by simpa using c23))
              clear c23
              by_cases c24 : (ji17) ≤ (x4_2.length : Int)
              ·rw [if_pos c24] at H
               have c24b0 := eq_true c24
               have c24b1 : decide ((ji17) ≤ (x4_2.length : Int)) = true := decide_eq_true c24
               clear c24
               obtain ⟨y183, hy183⟩ : ∃ y_ : List Bool, y_ = (x4_2.take ((ji17) : Int).toNat) := ⟨_, rfl⟩
               replace H : ((some (([rdOf false x5_2 (ji20)] : List Bool) : List Bool)).bind fun y187 => (if (ji20) ≤ (x5_2.length : Int) then ((some (x5_2.take ((ji20) : Int).toNat : List Bool)).bind fun y190 => (if y187.length + y190.length < 140737488355328 then (impl_set_tidy.l1 k2 x3_1 y183 (y187 ++ y190)) else (none))) else (none))) = some (r1, r2) := by first | (rw [hy183]; with_reducible exact H)
               have Ny183 := aM hy183
               clear hy183
               obtain ⟨y187, hy187⟩ : ∃ y_ : List Bool, y_ = (([rdOf false x5_2 (ji20)] : List Bool)) := ⟨_, rfl⟩
               replace H : (if (ji20) ≤ (x5_2.length : Int) then ((some (x5_2.take ((ji20) : Int).toNat : List Bool)).bind fun y190 => (if y187.length + y190.length < 140737488355328 then (impl_set_tidy.l1 k2 x3_1 y183 (y187 ++ y190)) else (none))) else (none)) = some (r1, r2) := by first | (have H2_ := (Option.bind_some _ _).symm.trans H; rw [hy187]; with_reducible exact H2_)
               have Ny187 := aM hy187
               clear hy187
               have c25b0 := eq_true (of_decide_eq_true (by (with_reducible assumption)) : 0 ≤ (ji20))
               by_cases c26 : (ji20) ≤ (x5_2.length : Int)
               ·rw [if_pos c26] at H
                have c26b0 := eq_true c26
                have c26b1 : decide ((ji20) ≤ (x5_2.length : Int)) = true := decide_eq_true c26
                clear c26
                obtain ⟨y190, hy190⟩ : ∃ y_ : List Bool, y_ = (x5_2.take ((ji20) : Int).toNat) := ⟨_, rfl⟩
                replace H : (if y187.length + y190.length < 140737488355328 then (impl_set_tidy.l1 k2 x3_1 y183 (y187 ++ y190)) else (none)) = some (r1, r2) := by first | (have H2_ := (Option.bind_some _ _).symm.trans H; rw [hy190]; with_reducible exact H2_)
                have Ny190 := aM hy190
                clear hy190
                by_cases c27 : y187.length + y190.length < 140737488355328
                ·rw [if_pos c27] at H
                 have LMc27 := aM c27
                 clear c27
                 obtain ⟨y194, hy194⟩ : ∃ y_ : List Bool, y_ = (y187 ++ y190) := ⟨_, rfl⟩
                 replace H : (impl_set_tidy.l1 k2 x3_1 y183 y194) = some (r1, r2) := by first | (rw [hy194]; with_reducible exact H)
                 have Ny194 := aM hy194
                 clear hy194
                 have H' := aM H
                 clear H
                 try go_wp2
                 replace HO_4 := aM (rD HO_4.out)
                 replace HO_5 := aM (rD HO_5.out)
                 replace BK171 := aM (kD BK171.out)
                 replace BK172 := aM (kD BK172.out)
                 replace HB := aM (b1 HB.out)
                 obtain ⟨Ao29, co29, eo29⟩ := Kd.R_slice HO_4.out
                 (subst eo29)
                 have p181 : 0 ≤ ((ji17) : Int) := of_decide_eq_true (by (with_reducible assumption))
                 have q181 : (ji17) < (x4_2.length : Int) := of_decide_eq_true (by (with_reducible assumption))
                 obtain ⟨ad181, e181, hx181_0⟩ := Kd.at_bool (Kd.R_reads' HO_4.out).2.2 (ji17) p181 q181
                 cases e181
                 replace p181 := eq_true p181
                 replace q181 := eq_true q181
                 obtain ⟨Ao30, co30, eo30⟩ := Kd.R_slice HO_5.out
                 (subst eo30)
                 have p182 : 0 ≤ ((ji20) : Int) := of_decide_eq_true (by (with_reducible assumption))
                 have q182 : (ji20) < (x5_2.length : Int) := of_decide_eq_true (by (with_reducible assumption))
                 obtain ⟨ad182, e182, hx182_0⟩ := Kd.at_bool (Kd.R_reads' HO_5.out).2.2 (ji20) p182 q182
                 cases e182
                 replace p182 := eq_true p182
                 replace q182 := eq_true q182
                 refine start_ (n := 17) (S := fun w' => w'.cell? (ad181.add ((ji17)).toNat) = some (.bool (rdOf false x4_2 (ji17))) ∧ w'.cell? (ad182.add ((ji20)).toNat) = some (.bool (rdOf false x5_2 (ji20)))) (ds := []) #[false, false, false, false, false, false, false, false, false, false, false, false, false, false, false, false, false] (by kernel_rfl) rfl rfl ⟨hx181_0, hx182_0⟩ (fun hHeld => ?_); refine with_tabW impl_set_tidy.tab5 impl_set_tidy.bits5 (fun HT_ HW_ => ?_)
                 generalize wr.drew = w28 at HO_4 HO_5 BK171 BK172 HB hx181_0 hx182_0 hHeld ⊢
                 refine pure_ (i := 0) (N := some 21) (v := ?_) (a' := ?_) #[true, false, false, false, false, false, false, false, false, false, false, false, false, false, false, false, false] rfl rfl (any_of HT_.out (by kernel_rfl)) (fun _ _ _ h => h) (Or.inl ⟨by rfl, ?_⟩) ?_ ?_
                 rotate_left
                 ·intro w'
                  go_simp
                  with_reducible rfl
                 rotate_left
                 ·simp only [Act.put, sA, sZ, sS, i64_w, i32_w]
                  rfl
                 refine pure_ (i := 1) (N := some 22) (v := ?_) (a' := ?_) #[true, true, false, false, false, false, false, false, false, false, false, false, false, false, false, false, false] rfl rfl (any_of HT_.out (by kernel_rfl)) (fun _ _ _ h => h) (Or.inl ⟨by rfl, ?_⟩) ?_ ?_
                 rotate_left
                 ·intro w'
                  go_simp
                  with_reducible rfl
                 rotate_left
                 ·simp only [Act.put, sA, sZ, sS, i64_w, i32_w]
                  rfl
                 refine pure_ (i := 2) (N := some 23) (v := ?_) (a' := ?_) #[true, true, true, false, false, false, false, false, false, false, false, false, false, false, false, false, false] rfl rfl (any_of HT_.out (by kernel_rfl)) (fun _ _ _ h => h) (Or.inl ⟨by rfl, ?_⟩) ?_ ?_
                 rotate_left
                 ·intro w'
                  go_simp
                  with_reducible rfl
                 rotate_left
                 ·simp only [Act.put, sA, sZ, sS, i64_w, i32_w]
                  rfl
                 refine pure_ (i := 3) (N := some 24) (v := ?_) (a' := ?_) #[true, true, true, true, false, false, false, false, false, false, false, false, false, false, false, false, false] rfl rfl (any_of HT_.out (by kernel_rfl)) (fun _ _ _ h => h) (Or.inl ⟨by rfl, ?_⟩) ?_ ?_
                 rotate_left
                 ·intro w'
                  go_simp
                  with_reducible rfl
                 rotate_left
                 ·simp only [Act.put, sA, sZ, sS, i64_w, i32_w]
                  rfl
                 refine pure_ (i := 4) (N := some 25) (v := ?_) (a' := ?_) #[true, true, true, true, true, false, false, false, false, false, false, false, false, false, false, false, false] rfl rfl (any_of HT_.out (by kernel_rfl)) (fun _ _ _ h => h) (Or.inl ⟨by rfl, ?_⟩) ?_ ?_
                 rotate_left
                 ·intro w'
                  go_simp
                  with_reducible rfl
                 rotate_left
                 ·simp only [Act.put, sA, sZ, sS, i64_w, i32_w]
                  rfl
                 refine pure_ (i := 5) (N := some 26) (v := ?_) (a' := ?_) #[true, true, true, true, true, true, false, false, false, false, false, false, false, false, false, false, false] rfl rfl (any_of HT_.out (by kernel_rfl)) (fun _ _ _ h => h) (Or.inl ⟨by rfl, ?_⟩) ?_ ?_
                 rotate_left
                 ·intro w'
                  go_simp
                  with_reducible rfl
                 rotate_left
                 ·simp only [Act.put, sA, sZ, sS, i64_w, i32_w]
                  rfl
                 refine pure_ (i := 6) (N := some 27) (v := ?_) (a' := ?_) #[true, true, true, true, true, true, true, false, false, false, false, false, false, false, false, false, false] rfl rfl (any_of HT_.out (by kernel_rfl)) (fun _ _ _ h => h) (Or.inl ⟨by rfl, ?_⟩) ?_ ?_
                 rotate_left
                 ·intro w'
                  go_simp
                  with_reducible rfl
                 rotate_left
                 ·simp only [Act.put, sA, sZ, sS, i64_w, i32_w]
                  rfl
                 refine pure_ (i := 7) (N := some 28) (v := ?_) (a' := ?_) #[true, true, true, true, true, true, true, true, false, false, false, false, false, false, false, false, false] rfl rfl (any_of HT_.out (by kernel_rfl)) (fun _ _ _ h => h) (Or.inl ⟨by rfl, ?_⟩) ?_ ?_
                 rotate_left
                 ·intro w'
                  go_simp
                  with_reducible rfl
                 rotate_left
                 ·simp only [Act.put, sA, sZ, sS, i64_w, i32_w]
                  rfl
                 refine pure_ (i := 8) (N := some 29) (v := ?_) (a' := ?_) #[true, true, true, true, true, true, true, true, true, false, false, false, false, false, false, false, false] rfl rfl (any_of HT_.out (by kernel_rfl)) (fun _ _ _ h => h) (Or.inl ⟨by rfl, ?_⟩) ?_ ?_
                 rotate_left
                 ·intro w'
                  go_simp
                  with_reducible rfl
                 rotate_left
                 ·simp only [Act.put, sA, sZ, sS, i64_w, i32_w]
                  rfl
                 refine pure_ (i := 10) (N := some 31) (v := ?_) (a' := ?_) #[true, true, true, true, true, true, true, true, true, false, true, false, false, false, false, false, false] rfl rfl (any_of HT_.out (by kernel_rfl)) (fun _ _ _ h => h) (Or.inl ⟨by rfl, ?_⟩) ?_ ?_
                 rotate_left
                 ·intro w'
                  go_simp
                  with_reducible rfl
                 rotate_left
                 ·simp only [Act.put, sA, sZ, sS, i64_w, i32_w]
                  rfl
                 refine pure_ (i := 11) (N := some 32) (v := ?_) (a' := ?_) #[true, true, true, true, true, true, true, true, true, false, true, true, false, false, false, false, false] rfl rfl (any_of HT_.out (by kernel_rfl)) (fun _ _ _ h => h) (Or.inl ⟨by rfl, ?_⟩) ?_ ?_
                 rotate_left
                 ·intro w'
                  go_simp
                  with_reducible rfl
                 rotate_left
                 ·simp only [Act.put, sA, sZ, sS, i64_w, i32_w]
                  rfl
                 refine pure_ (i := 12) (N := some 33) (v := ?_) (a' := ?_) #[true, true, true, true, true, true, true, true, true, false, true, true, true, false, false, false, false] rfl rfl (any_of HT_.out (by kernel_rfl)) (fun _ _ _ h => h) (Or.inl ⟨by rfl, ?_⟩) ?_ ?_
                 rotate_left
                 ·intro w'
                  go_simp
                  with_reducible rfl
                 rotate_left
                 ·simp only [Act.put, sA, sZ, sS, i64_w, i32_w]
                  rfl
                 refine pure_ (i := 13) (N := some 34) (v := ?_) (a' := ?_) #[true, true, true, true, true, true, true, true, true, false, true, true, true, true, false, false, false] rfl rfl (any_of HT_.out (by kernel_rfl)) (fun _ _ _ h => h) (Or.inl ⟨by rfl, ?_⟩) ?_ ?_
                 rotate_left
                 ·intro w'
                  go_simp
                  with_reducible rfl
                 rotate_left
                 ·simp only [Act.put, sA, sZ, sS, i64_w, i32_w]
                  rfl
                 refine take_ (i := 9) (N := some 30) (v := ?_) (a' := ?_) #[true, true, true, true, true, true, true, true, true, true, true, true, true, true, false, false, false] rfl rfl (take_ofW HT_.out HW_.out (by kernel_rfl)) (fun _ _ _ h => h) (Or.inl ⟨by rfl, ?_⟩) hHeld ?_ ?_
                 rotate_left
                 ·rintro w' ⟨s0, s1⟩
                  go_simp
                  with_reducible rfl
                 rotate_left
                 ·simp only [Act.put, sA, sZ, sS, i64_w, i32_w]
                  rfl
                 refine take_ (i := 14) (N := some 35) (v := ?_) (a' := ?_) #[true, true, true, true, true, true, true, true, true, true, true, true, true, true, true, false, false] rfl rfl (take_ofW HT_.out HW_.out (by kernel_rfl)) (fun _ _ _ h => h) (Or.inl ⟨by rfl, ?_⟩) hHeld ?_ ?_
                 rotate_left
                 ·rintro w' ⟨s0, s1⟩
                  go_simp
                  with_reducible rfl
                 rotate_left
                 ·simp only [Act.put, sA, sZ, sS, i64_w, i32_w]
                  rfl
                 refine pure_ (i := 15) (N := some 36) (v := ?_) (a' := ?_) #[true, true, true, true, true, true, true, true, true, true, true, true, true, true, true, true, false] rfl rfl (any_of HT_.out (by kernel_rfl)) (fun _ _ _ h => h) (Or.inl ⟨by rfl, ?_⟩) ?_ ?_
                 rotate_left
                 ·intro w'
                  go_simp
                  with_reducible rfl
                 rotate_left
                 ·simp only [Act.put, sA, sZ, sS, i64_w, i32_w]
                  rfl
                 refine pure_ (i := 16) (N := some 37) (v := ?_) (a' := ?_) #[true, true, true, true, true, true, true, true, true, true, true, true, true, true, true, true, true] rfl rfl (any_of HT_.out (by kernel_rfl)) (fun _ _ _ h => h) (Or.inl ⟨by rfl, ?_⟩) ?_ ?_
                 rotate_left
                 ·intro w'
                  go_simp
                  with_reducible rfl
                 rotate_left
                 ·simp only [Act.put, sA, sZ, sS, i64_w, i32_w]
                  rfl
                 refine done_ (done_of HT_.out (by kernel_rfl)) ?_
                 have q31 : ((ji17) : Int) ≤ ((x4_2.length : Int) : Int) := of_decide_eq_true (by (with_reducible assumption))
                 obtain ⟨i031, hi031, _, hsz31, _⟩ := info_parts info4
                 have hcut31 := cut_to (P := Try.prog) 58 4 .i64 Try.underlying58 hi031 (some ad181) x4_2.length co29 (ji17) (of_decide_eq_true (by (with_reducible assumption))) q31 (Kd.R_reads' HO_4.out).2.1
                 have hr31 := Kd.R_take (m := ((ji17) : Int).toNat) HO_4.out (by omega)
                 have hy31 : y183.length = ((ji17) : Int).toNat := (by rw [Ny183.out, List.length_take]; omega)
                 rw [← Ny183.out] at hr31
                 rw [← hy31] at hr31 hcut31
                 clear hy31 hi031 hsz31 HO_4
                 have HO185 := aM hr31
                 clear hr31
                 replace q31 := eq_true q31
                 try go_wp2
                 replace HO185 := aM (rD HO185.out)
                 replace HO_5 := aM (rD HO_5.out)
                 replace BK171 := aM (kD BK171.out)
                 replace BK172 := aM (kD BK172.out)
                 replace HB := aM (b1 HB.out)
                 have p186 : 0 ≤ ((ji20) : Int) := of_decide_eq_true (by (with_reducible assumption))
                 have q186 : (ji20) < (x5_2.length : Int) := of_decide_eq_true (by (with_reducible assumption))
                 obtain ⟨ad186, e186, hx186_0⟩ := Kd.at_bool (Kd.R_reads' HO_5.out).2.2 (ji20) p186 q186
                 obtain rfl : ad182 = ad186 := (by injection e186)
                 replace p186 := eq_true p186
                 replace q186 := eq_true q186
                 have q33 : ((ji20) : Int) ≤ ((x5_2.length : Int) : Int) := of_decide_eq_true (by (with_reducible assumption))
                 obtain ⟨i033, hi033, _, hsz33, _⟩ := info_parts info4
                 have hroom33 : x5_2.length ≤ co30 := (Kd.R_reads' HO_5.out).2.1
                 have hC33 : Kd.C Kd.bool _ (some ad182) x5_2.length x5_2 := (Kd.R_reads' HO_5.out).2.2
                 have hcut33 := cut_to (P := Try.prog) 58 4 .i64 Try.underlying58 hi033 (some ad182) x5_2.length co30 (ji20) (of_decide_eq_true (by (with_reducible assumption))) q33 hroom33
                 have hr33 := Kd.C_take (m := ((ji20) : Int).toNat) hC33 (by omega)
                 have hy33 : y190.length = ((ji20) : Int).toNat := (by rw [Ny190.out, List.length_take]; omega)
                 rw [← Ny190.out] at hr33
                 rw [← hy33] at hcut33
                 have HR193 := aM hr33
                 have HC193 := aM (show y190.length ≤ co30 from by omega)
                 clear hr33 hC33 hroom33 hi033 hsz33
                 have KY33 := aM hy33
                 clear hy33
                 have KL33 := aM (show ((ji20) : Int).toNat ≤ x5_2.length from by omega)
                 replace q33 := eq_true q33
                 refine start_ (n := 12) (S := fun w' => w'.cell? (ad182.add ((ji20)).toNat) = some (.bool (rdOf false x5_2 (ji20)))) (ds := [10]) #[false, false, false, false, false, false, false, false, false, false, false, false] (by kernel_rfl) rfl rfl (hx186_0) (fun hHeld => ?_); refine with_tabW impl_set_tidy.tab7 impl_set_tidy.bits7 (fun HT_ HW_ => ?_)
                 generalize w28.drew = w32 at HO185 HO_5 BK171 BK172 HB HR193 hx186_0 hHeld ⊢
                 refine pure_ (i := 0) (N := some 43) (v := ?_) (a' := ?_) #[true, false, false, false, false, false, false, false, false, false, false, false] rfl rfl (any_of HT_.out (by kernel_rfl)) (fun _ _ _ h => h) (Or.inl ⟨by rfl, ?_⟩) ?_ ?_
                 rotate_left
                 ·intro w'
                  go_simp
                  with_reducible rfl
                 rotate_left
                 ·simp only [Act.put, sA, sZ, sS, i64_w, i32_w]
                  rfl
                 refine pure_ (i := 1) (N := some 44) (v := ?_) (a' := ?_) #[true, true, false, false, false, false, false, false, false, false, false, false] rfl rfl (any_of HT_.out (by kernel_rfl)) (fun _ _ _ h => h) (Or.inl ⟨by rfl, ?_⟩) ?_ ?_
                 rotate_left
                 ·intro w'
                  go_simp
                  with_reducible rfl
                 rotate_left
                 ·simp only [Act.put, sA, sZ, sS, i64_w, i32_w]
                  rfl
                 refine pure_ (i := 2) (N := some 45) (v := ?_) (a' := ?_) #[true, true, true, false, false, false, false, false, false, false, false, false] rfl rfl (any_of HT_.out (by kernel_rfl)) (fun _ _ _ h => h) (Or.inl ⟨by rfl, ?_⟩) ?_ ?_
                 rotate_left
                 ·intro w'
                  go_simp
                  with_reducible rfl
                 rotate_left
                 ·simp only [Act.put, sA, sZ, sS, i64_w, i32_w]
                  rfl
                 refine pure_ (i := 3) (N := some 46) (v := ?_) (a' := ?_) #[true, true, true, true, false, false, false, false, false, false, false, false] rfl rfl (any_of HT_.out (by kernel_rfl)) (fun _ _ _ h => h) (Or.inl ⟨by rfl, ?_⟩) ?_ ?_
                 rotate_left
                 ·intro w'
                  go_simp
                  with_reducible rfl
                 rotate_left
                 ·simp only [Act.put, sA, sZ, sS, i64_w, i32_w]
                  rfl
                 refine pure_ (i := 6) (N := some 49) (v := ?_) (a' := ?_) #[true, true, true, true, false, false, true, false, false, false, false, false] rfl rfl (any_of HT_.out (by kernel_rfl)) (fun _ _ _ h => h) (Or.inl ⟨by rfl, ?_⟩) ?_ ?_
                 rotate_left
                 ·intro w'
                  go_simp
                  with_reducible rfl
                 rotate_left
                 ·simp only [Act.put, sA, sZ, sS, i64_w, i32_w]
                  rfl
                 refine pure_ (i := 7) (N := some 50) (v := ?_) (a' := ?_) #[true, true, true, true, false, false, true, true, false, false, false, false] rfl rfl (any_of HT_.out (by kernel_rfl)) (fun _ _ _ h => h) (Or.inl ⟨by rfl, ?_⟩) ?_ ?_
                 rotate_left
                 ·intro w'
                  go_simp
                  with_reducible rfl
                 rotate_left
                 ·simp only [Act.put, sA, sZ, sS, i64_w, i32_w]
                  rfl
                 refine pure_ (i := 8) (N := some 51) (v := ?_) (a' := ?_) #[true, true, true, true, false, false, true, true, true, false, false, false] rfl rfl (any_of HT_.out (by kernel_rfl)) (fun _ _ _ h => h) (Or.inl ⟨by rfl, ?_⟩) ?_ ?_
                 rotate_left
                 ·intro w'
                  go_simp
                  with_reducible rfl
                 rotate_left
                 ·simp only [Act.put, sA, sZ, sS, i64_w, i32_w]
                  rfl
                 refine pure_ (i := 9) (N := some 52) (v := ?_) (a' := ?_) #[true, true, true, true, false, false, true, true, true, true, false, false] rfl rfl (any_of HT_.out (by kernel_rfl)) (fun _ _ _ h => h) (Or.inl ⟨by rfl, ?_⟩) ?_ ?_
                 rotate_left
                 ·intro w'
                  go_simp
                  with_reducible rfl
                 rotate_left
                 ·simp only [Act.put, sA, sZ, sS, i64_w, i32_w]
                  rfl
                 refine take_ (i := 4) (N := some 47) (v := ?_) (a' := ?_) #[true, true, true, true, true, false, true, true, true, true, false, false] rfl rfl (take_ofW HT_.out HW_.out (by kernel_rfl)) (fun _ _ _ h => h) (Or.inl ⟨by rfl, ?_⟩) hHeld ?_ ?_
                 rotate_left
                 ·intro w' s0
                  go_simp
                  with_reducible rfl
                 rotate_left
                 ·simp only [Act.put, sA, sZ, sS, i64_w, i32_w]
                  rfl
                 refine one_ (i := 5) (N := some 48) #[true, true, true, true, true, true, true, true, true, true, false, false] rfl rfl (one_of HT_.out (by kernel_rfl)) (by decide) (fun K hK => ?_)
                 refine Kd.R_lit_step Kd.bool _ 4 ?hg (N := 48) ?hd (xs := ([rdOf false x5_2 (ji20)] : List Bool)) (inner := [.bool (rdOf false x5_2 (ji20))]) (ok := fun _ => True) (okp := fun _ => True) ?hr ?hp (fun _ hk => hk) trivial (Below.refl _ _) (Nat.le_refl _) (by simp) ?_; (case hd => rfl); (case hg => rfl); (case hr => first | (go_simp; done)); (case hp => exact (Reps.one (show Kd.M Kd.bool _ _ _ (rdOf false x5_2 (ji20)) [.bool (rdOf false x5_2 (ji20))] from rfl) (Reps.none _ _)))
                 intro v188 w34 ho35 hb hg_ hnew_
                 have HS0_ := (hb.cell (World.block_lt_of_cell? _ _ (hHeld))).trans (hHeld)
                 clear hg_ hnew_
                 (rw [← Ny187.out] at ho35)
                 have HO189 := aM (Kd.R_lower (Kd.R_new' (Kd.R_new' ho35 (Kd.R_lt HO185.out)) (Kd.R_lt HO_5.out)) (below_size HB.out))
                 replace HO185 := aM (Kd.R_elder' HO185.out (Kd.R_base ho35) hb)
                 replace HO_5 := aM (Kd.R_elder' HO_5.out (Kd.R_base ho35) hb)
                 replace BK171 := aM (blk_below (g := gb171) (o := .cells #[.slice A0_0 l0_0.length c0_0, .slice A0_1 l0_1.length c0_1] 60 (0, 0)) BK171.out hb)
                 replace BK172 := aM (blk_below (g := gb172) (o := .cells #[.slice none 0 0, .slice none 0 0] 60 (0, 0)) BK172.out hb)
                 replace HR193 := aM (Kd.C_below HR193.out hb)
                 replace HB := aM (below_step HB.out hb)
                 clear hb ho35
                 refine hK.out _ _ (HS0_) (fun hHeld => ?_)
                 clear hK K
                 refine norm_ (a' := ?_) ?_ ?_
                 rotate_left
                 ·show Act.put _ (some 48) _ = _
                  simp only [Act.put, sA, sZ, sS, i64_w, i32_w]
                  rfl
                 refine last_ (i := 10) (N := some 53) #[true, true, true, true, true, true, true, true, true, true, true, false] rfl rfl (one_of HT_.out (by kernel_rfl)) (by decide) (fun K hK => ?_)
                 refine Kd.R_append_rows_step Kd.bool (w0 := w) w.heap.size (by rfl) (.tmp 48) (.tmp 52) 58 4 (.bool false) 1 rfl Try.underlying58 info4 rfl (by decide) (by omega) v188 y187 y190 _ _ _ (fun k_ => some k_ ≠ (.slice (some ad181) y183.length co29 : Value).ownBlock ∧ some k_ ≠ (.slice (some ad182) x5_2.length co30 : Value).ownBlock) (fun _ => False) rfl rfl ?aO ?aR (fun _ _ h => h) (fun _ h => h.elim) ?aF ?aB ?aS ?aL ?_
                 (case aR => repeat (exact (by repeat (exact HR193.out))))
                 (case aB => exact HB.out)
                 (case aF => exact (fun k_ hk => ⟨Kd.fresh' (Kd.R_lt HO185.out) k_ hk, Kd.fresh' (Kd.R_lt HO_5.out) k_ hk⟩))
                 (case aO => exact (by exact Kd.R_mono HO189.out (fun _ hk => ⟨hk.1.2, hk.2⟩)))
                 (case aS => exact (below_size HB.out))
                 (case aL => have := LMc27.out; omega)
                 intro v195 w36 ho hb hg hat
                 rw [← Ny194.out] at ho
                 replace HO185 := aM (Kd.R_after (ok := (fun k_ => some k_ ≠ (.slice (some ad182) x5_2.length co30 : Value).ownBlock)) HO185.out hg hat)
                 replace BK171 := aM (blk_grown (g := gb171) (o := .cells #[.slice A0_0 l0_0.length c0_0, .slice A0_1 l0_1.length c0_1] 60 (0, 0)) BK171.out hg (Kd.R_ne HO189.out BK171.out (by decide)))
                 replace BK172 := aM (blk_grown (g := gb172) (o := .cells #[.slice none 0 0, .slice none 0 0] 60 (0, 0)) BK172.out hg (Kd.R_ne HO189.out BK172.out (by decide)))
                 replace HB := aM hb
                 replace HR193 := aM ((show Kd.C Kd.bool w36 (some ad182) y190.length y190 from by rw [Ny190.out]; exact Kd.C_take (m := ((ji20) : Int).toNat) ((Kd.R_reads' (Kd.R_after (ok := (fun k_ => some k_ ≠ (.slice (some ad181) y183.length co29 : Value).ownBlock)) HO_5.out hg hat)).2.2) KL33.out))
                 replace HO_5 := aM (Kd.R_after (ok := (fun k_ => some k_ ≠ (.slice (some ad181) y183.length co29 : Value).ownBlock)) HO_5.out hg hat)
                 have HO196 := aM ho
                 clear HO189
                 clear ho hb hg hat
                 refine hK.out _ _ ?_
                 clear hK K
                 refine norm_ (a' := ?_) ?_ ?_
                 rotate_left
                 ·show Act.put _ (some 53) _ = _
                  simp only [Act.put, sA, sZ, sS, i64_w, i32_w]
                  rfl
                 refine pure_ (i := 11) (N := some 5) (v := ?_) (a' := ?_) #[true, true, true, true, true, true, true, true, true, true, true, true] rfl rfl (any_of HT_.out (by kernel_rfl)) (fun _ _ _ h => h) (Or.inl ⟨by rfl, ?_⟩) ?_ ?_
                 rotate_left
                 ·intro w'
                  go_simp
                  with_reducible rfl
                 rotate_left
                 ·simp only [Act.put, sA, sZ, sS, i64_w, i32_w]
                  rfl
                 refine done_ (done_of HT_.out (by kernel_rfl)) ?_
                 try go_wp2
                 go_roundg k2
                 case measure => have := HK1.out; have := HK2.out; omega
                 case rel => exact ⟨(y183), (y194), H', ⟨by have := HK1.out; have := HK2.out; omega⟩, ⟨by exact Kd.R_mono HO185.out (fun _ hk => hk.2)⟩, ⟨by exact Kd.R_mono HO196.out (fun _ hk => hk.1)⟩, ⟨by exact BK171.out⟩, ⟨by exact BK172.out⟩, ⟨HB.out⟩⟩
                ·rw [if_neg c27] at H
                 exact absurd H (by simp)
               ·rw [if_neg c26] at H
                exact absurd H (by simp)
              ·rw [if_neg c24] at H
               exact absurd H (by simp)
             ·rw [if_neg c23] at H
              have c23b0 : ((rdOf false x4_2 (ji17)) == (rdOf false x5_2 (ji20))) = false := by simpa using c23
              (try (have c23b1 : decide ((rdOf false x4_2 (ji17)) = (rdOf false x5_2 (ji20))) = false := by simpa using c23))
              (try (have c23b2 : ((rdOf false x4_2 (ji17)) == (rdOf false x5_2 (ji20))) = false := by simpa using c23))
              (try (have c23b3 : ¬ ((rdOf false x4_2 (ji17)) = (rdOf false x5_2 (ji20))) := by simpa using c23))
              clear c23
              simp only [Option.some.injEq, Prod.mk.injEq] at H
              obtain ⟨rfl, rfl⟩ := H
              try go_wp2
              replace HO_4 := aM (rD HO_4.out)
              replace HO_5 := aM (rD HO_5.out)
              replace BK171 := aM (kD BK171.out)
              replace BK172 := aM (kD BK172.out)
              replace HB := aM (b1 HB.out)
              obtain ⟨Ao38, co38, eo38⟩ := Kd.R_slice HO_4.out
              (subst eo38)
              have p181 : 0 ≤ ((ji17) : Int) := of_decide_eq_true (by (with_reducible assumption))
              have q181 : (ji17) < (x4_2.length : Int) := of_decide_eq_true (by (with_reducible assumption))
              obtain ⟨ad181, e181, hx181_0⟩ := Kd.at_bool (Kd.R_reads' HO_4.out).2.2 (ji17) p181 q181
              cases e181
              replace p181 := eq_true p181
              replace q181 := eq_true q181
              obtain ⟨Ao39, co39, eo39⟩ := Kd.R_slice HO_5.out
              (subst eo39)
              have p182 : 0 ≤ ((ji20) : Int) := of_decide_eq_true (by (with_reducible assumption))
              have q182 : (ji20) < (x5_2.length : Int) := of_decide_eq_true (by (with_reducible assumption))
              obtain ⟨ad182, e182, hx182_0⟩ := Kd.at_bool (Kd.R_reads' HO_5.out).2.2 (ji20) p182 q182
              cases e182
              replace p182 := eq_true p182
              replace q182 := eq_true q182
              refine start_ (n := 17) (S := fun w' => w'.cell? (ad181.add ((ji17)).toNat) = some (.bool (rdOf false x4_2 (ji17))) ∧ w'.cell? (ad182.add ((ji20)).toNat) = some (.bool (rdOf false x5_2 (ji20)))) (ds := []) #[false, false, false, false, false, false, false, false, false, false, false, false, false, false, false, false, false] (by kernel_rfl) rfl rfl ⟨hx181_0, hx182_0⟩ (fun hHeld => ?_); refine with_tabW impl_set_tidy.tab5 impl_set_tidy.bits5 (fun HT_ HW_ => ?_)
              generalize wr.drew = w37 at HO_4 HO_5 BK171 BK172 HB hx181_0 hx182_0 hHeld ⊢
              refine pure_ (i := 0) (N := some 21) (v := ?_) (a' := ?_) #[true, false, false, false, false, false, false, false, false, false, false, false, false, false, false, false, false] rfl rfl (any_of HT_.out (by kernel_rfl)) (fun _ _ _ h => h) (Or.inl ⟨by rfl, ?_⟩) ?_ ?_
              rotate_left
              ·intro w'
               go_simp
               with_reducible rfl
              rotate_left
              ·simp only [Act.put, sA, sZ, sS, i64_w, i32_w]
               rfl
              refine pure_ (i := 1) (N := some 22) (v := ?_) (a' := ?_) #[true, true, false, false, false, false, false, false, false, false, false, false, false, false, false, false, false] rfl rfl (any_of HT_.out (by kernel_rfl)) (fun _ _ _ h => h) (Or.inl ⟨by rfl, ?_⟩) ?_ ?_
              rotate_left
              ·intro w'
               go_simp
               with_reducible rfl
              rotate_left
              ·simp only [Act.put, sA, sZ, sS, i64_w, i32_w]
               rfl
              refine pure_ (i := 2) (N := some 23) (v := ?_) (a' := ?_) #[true, true, true, false, false, false, false, false, false, false, false, false, false, false, false, false, false] rfl rfl (any_of HT_.out (by kernel_rfl)) (fun _ _ _ h => h) (Or.inl ⟨by rfl, ?_⟩) ?_ ?_
              rotate_left
              ·intro w'
               go_simp
               with_reducible rfl
              rotate_left
              ·simp only [Act.put, sA, sZ, sS, i64_w, i32_w]
               rfl
              refine pure_ (i := 3) (N := some 24) (v := ?_) (a' := ?_) #[true, true, true, true, false, false, false, false, false, false, false, false, false, false, false, false, false] rfl rfl (any_of HT_.out (by kernel_rfl)) (fun _ _ _ h => h) (Or.inl ⟨by rfl, ?_⟩) ?_ ?_
              rotate_left
              ·intro w'
               go_simp
               with_reducible rfl
              rotate_left
              ·simp only [Act.put, sA, sZ, sS, i64_w, i32_w]
               rfl
              refine pure_ (i := 4) (N := some 25) (v := ?_) (a' := ?_) #[true, true, true, true, true, false, false, false, false, false, false, false, false, false, false, false, false] rfl rfl (any_of HT_.out (by kernel_rfl)) (fun _ _ _ h => h) (Or.inl ⟨by rfl, ?_⟩) ?_ ?_
              rotate_left
              ·intro w'
               go_simp
               with_reducible rfl
              rotate_left
              ·simp only [Act.put, sA, sZ, sS, i64_w, i32_w]
               rfl
              refine pure_ (i := 5) (N := some 26) (v := ?_) (a' := ?_) #[true, true, true, true, true, true, false, false, false, false, false, false, false, false, false, false, false] rfl rfl (any_of HT_.out (by kernel_rfl)) (fun _ _ _ h => h) (Or.inl ⟨by rfl, ?_⟩) ?_ ?_
              rotate_left
              ·intro w'
               go_simp
               with_reducible rfl
              rotate_left
              ·simp only [Act.put, sA, sZ, sS, i64_w, i32_w]
               rfl
              refine pure_ (i := 6) (N := some 27) (v := ?_) (a' := ?_) #[true, true, true, true, true, true, true, false, false, false, false, false, false, false, false, false, false] rfl rfl (any_of HT_.out (by kernel_rfl)) (fun _ _ _ h => h) (Or.inl ⟨by rfl, ?_⟩) ?_ ?_
              rotate_left
              ·intro w'
               go_simp
               with_reducible rfl
              rotate_left
              ·simp only [Act.put, sA, sZ, sS, i64_w, i32_w]
               rfl
              refine pure_ (i := 7) (N := some 28) (v := ?_) (a' := ?_) #[true, true, true, true, true, true, true, true, false, false, false, false, false, false, false, false, false] rfl rfl (any_of HT_.out (by kernel_rfl)) (fun _ _ _ h => h) (Or.inl ⟨by rfl, ?_⟩) ?_ ?_
              rotate_left
              ·intro w'
               go_simp
               with_reducible rfl
              rotate_left
              ·simp only [Act.put, sA, sZ, sS, i64_w, i32_w]
               rfl
              refine pure_ (i := 8) (N := some 29) (v := ?_) (a' := ?_) #[true, true, true, true, true, true, true, true, true, false, false, false, false, false, false, false, false] rfl rfl (any_of HT_.out (by kernel_rfl)) (fun _ _ _ h => h) (Or.inl ⟨by rfl, ?_⟩) ?_ ?_
              rotate_left
              ·intro w'
               go_simp
               with_reducible rfl
              rotate_left
              ·simp only [Act.put, sA, sZ, sS, i64_w, i32_w]
               rfl
              refine pure_ (i := 10) (N := some 31) (v := ?_) (a' := ?_) #[true, true, true, true, true, true, true, true, true, false, true, false, false, false, false, false, false] rfl rfl (any_of HT_.out (by kernel_rfl)) (fun _ _ _ h => h) (Or.inl ⟨by rfl, ?_⟩) ?_ ?_
              rotate_left
              ·intro w'
               go_simp
               with_reducible rfl
              rotate_left
              ·simp only [Act.put, sA, sZ, sS, i64_w, i32_w]
               rfl
              refine pure_ (i := 11) (N := some 32) (v := ?_) (a' := ?_) #[true, true, true, true, true, true, true, true, true, false, true, true, false, false, false, false, false] rfl rfl (any_of HT_.out (by kernel_rfl)) (fun _ _ _ h => h) (Or.inl ⟨by rfl, ?_⟩) ?_ ?_
              rotate_left
              ·intro w'
               go_simp
               with_reducible rfl
              rotate_left
              ·simp only [Act.put, sA, sZ, sS, i64_w, i32_w]
               rfl
              refine pure_ (i := 12) (N := some 33) (v := ?_) (a' := ?_) #[true, true, true, true, true, true, true, true, true, false, true, true, true, false, false, false, false] rfl rfl (any_of HT_.out (by kernel_rfl)) (fun _ _ _ h => h) (Or.inl ⟨by rfl, ?_⟩) ?_ ?_
              rotate_left
              ·intro w'
               go_simp
               with_reducible rfl
              rotate_left
              ·simp only [Act.put, sA, sZ, sS, i64_w, i32_w]
               rfl
              refine pure_ (i := 13) (N := some 34) (v := ?_) (a' := ?_) #[true, true, true, true, true, true, true, true, true, false, true, true, true, true, false, false, false] rfl rfl (any_of HT_.out (by kernel_rfl)) (fun _ _ _ h => h) (Or.inl ⟨by rfl, ?_⟩) ?_ ?_
              rotate_left
              ·intro w'
               go_simp
               with_reducible rfl
              rotate_left
              ·simp only [Act.put, sA, sZ, sS, i64_w, i32_w]
               rfl
              refine take_ (i := 9) (N := some 30) (v := ?_) (a' := ?_) #[true, true, true, true, true, true, true, true, true, true, true, true, true, true, false, false, false] rfl rfl (take_ofW HT_.out HW_.out (by kernel_rfl)) (fun _ _ _ h => h) (Or.inl ⟨by rfl, ?_⟩) hHeld ?_ ?_
              rotate_left
              ·rintro w' ⟨s0, s1⟩
               go_simp
               with_reducible rfl
              rotate_left
              ·simp only [Act.put, sA, sZ, sS, i64_w, i32_w]
               rfl
              refine take_ (i := 14) (N := some 35) (v := ?_) (a' := ?_) #[true, true, true, true, true, true, true, true, true, true, true, true, true, true, true, false, false] rfl rfl (take_ofW HT_.out HW_.out (by kernel_rfl)) (fun _ _ _ h => h) (Or.inl ⟨by rfl, ?_⟩) hHeld ?_ ?_
              rotate_left
              ·rintro w' ⟨s0, s1⟩
               go_simp
               with_reducible rfl
              rotate_left
              ·simp only [Act.put, sA, sZ, sS, i64_w, i32_w]
               rfl
              refine pure_ (i := 15) (N := some 36) (v := ?_) (a' := ?_) #[true, true, true, true, true, true, true, true, true, true, true, true, true, true, true, true, false] rfl rfl (any_of HT_.out (by kernel_rfl)) (fun _ _ _ h => h) (Or.inl ⟨by rfl, ?_⟩) ?_ ?_
              rotate_left
              ·intro w'
               go_simp
               with_reducible rfl
              rotate_left
              ·simp only [Act.put, sA, sZ, sS, i64_w, i32_w]
               rfl
              refine pure_ (i := 16) (N := some 37) (v := ?_) (a' := ?_) #[true, true, true, true, true, true, true, true, true, true, true, true, true, true, true, true, true] rfl rfl (any_of HT_.out (by kernel_rfl)) (fun _ _ _ h => h) (Or.inl ⟨by rfl, ?_⟩) ?_ ?_
              rotate_left
              ·intro w'
               go_simp
               with_reducible rfl
              rotate_left
              ·simp only [Act.put, sA, sZ, sS, i64_w, i32_w]
               rfl
              refine done_ (done_of HT_.out (by kernel_rfl)) ?_
              have hnb40 := NB172_171.out
              have hnc40 := NB171_172.out
              have hcz41_0 : w37.cell? ⟨gb172, 0, none⟩ = some (.slice none 0 0) := (blk_cell BK172.out 0).trans rfl
              have hcz41_1 : w37.cell? ⟨gb172, 1, none⟩ = some (.slice none 0 0) := (blk_cell BK172.out 1).trans rfl
              have hfz41_0 := blk_frozen BK172.out 0
              have hfz41_1 := blk_frozen BK172.out 1
              try go_wp2
              refine bodyPost_ret (results_cell_row rfl _ _ gb172 60 #[.slice (some ad181) x4_2.length co38, .slice (some ad182) x5_2.length co39] (0, 0) _ rfl (by refine blk_put (cs := #[.slice (some ad181) x4_2.length co38, .slice none 0 0]) ?_ 1 _ rfl; refine blk_put (cs := #[.slice none 0 0, .slice none 0 0]) ?_ 0 _ rfl; exact BK172.out) Try.underlying60 rfl (by kernel_rfl)) rfl ?_
              exact ⟨_, _, by first | rfl | (simp [*, errW_none, errW_some] <;> rfl), by exact Kd.R_mono (Kd.R_far (p := ⟨gb172, 1, none⟩) (Kd.R_far (p := ⟨gb172, 0, none⟩) (Kd.R_types HO_4.out BK172.out (by decide)) (fun _ hk => hk.2) (.slice (some ad181) x4_2.length co38)) (fun _ hk => hk.2) (.slice (some ad182) x5_2.length co39)) (fun _ hk => hk.1), by exact Kd.R_mono (Kd.R_far (p := ⟨gb172, 1, none⟩) (Kd.R_far (p := ⟨gb172, 0, none⟩) (Kd.R_types HO_5.out BK172.out (by decide)) (fun _ hk => hk.2) (.slice (some ad181) x4_2.length co38)) (fun _ hk => hk.2) (.slice (some ad182) x5_2.length co39)) (fun _ hk => hk.1), by repeat (first | (with_reducible first | exact HB.out | refine bS ?_ GE172.out))⟩
            ·rw [if_neg c22] at H
             exact absurd H (by simp)
           ·rw [if_neg c21] at H
            exact absurd H (by simp)
          ·rw [if_neg c19] at H
           exact absurd H (by simp)
         ·rw [if_neg c18] at H
          exact absurd H (by simp)
        ·rw [if_neg c16] at H
         have c16b0 : decide (0 < (x4_2.length : Int)) = false := decide_eq_false c16
         have c16b1 : decide (0 < x4_2.length) = false := decide_eq_false (by omega)
         clear c16
         simp only [Option.some.injEq, Prod.mk.injEq] at H
         obtain ⟨rfl, rfl⟩ := H
         try go_wp2
         replace HO_4 := aM (rD HO_4.out)
         replace HO_5 := aM (rD HO_5.out)
         replace BK171 := aM (kD BK171.out)
         replace BK172 := aM (kD BK172.out)
         replace HB := aM (b1 HB.out)
         obtain ⟨Ao43, co43, eo43⟩ := Kd.R_slice HO_4.out
         (subst eo43)
         refine start_ (n := 17) (S := fun w' => True) (ds := []) #[false, false, false, false, false, false, false, false, false, false, false, false, false, false, false, false, false] (by kernel_rfl) rfl rfl trivial (fun hHeld => ?_); refine with_tabW impl_set_tidy.tab5 impl_set_tidy.bits5 (fun HT_ HW_ => ?_)
         generalize wr.drew = w42 at HO_4 HO_5 BK171 BK172 HB hHeld ⊢
         refine pure_ (i := 0) (N := some 21) (v := ?_) (a' := ?_) #[true, false, false, false, false, false, false, false, false, false, false, false, false, false, false, false, false] rfl rfl (any_of HT_.out (by kernel_rfl)) (fun _ _ _ h => h) (Or.inl ⟨by rfl, ?_⟩) ?_ ?_
         rotate_left
         ·intro w'
          go_simp
          with_reducible rfl
         rotate_left
         ·simp only [Act.put, sA, sZ, sS, i64_w, i32_w]
          rfl
         refine pure_ (i := 1) (N := some 22) (v := ?_) (a' := ?_) #[true, true, false, false, false, false, false, false, false, false, false, false, false, false, false, false, false] rfl rfl (any_of HT_.out (by kernel_rfl)) (fun _ _ _ h => h) (Or.inl ⟨by rfl, ?_⟩) ?_ ?_
         rotate_left
         ·intro w'
          go_simp
          with_reducible rfl
         rotate_left
         ·simp only [Act.put, sA, sZ, sS, i64_w, i32_w]
          rfl
         refine pure_ (i := 2) (N := some 23) (v := ?_) (a' := ?_) #[true, true, true, false, false, false, false, false, false, false, false, false, false, false, false, false, false] rfl rfl (any_of HT_.out (by kernel_rfl)) (fun _ _ _ h => h) (Or.inl ⟨by rfl, ?_⟩) ?_ ?_
         rotate_left
         ·intro w'
          go_simp
          with_reducible rfl
         rotate_left
         ·simp only [Act.put, sA, sZ, sS, i64_w, i32_w]
          rfl
         refine pure_ (i := 3) (N := some 24) (v := ?_) (a' := ?_) #[true, true, true, true, false, false, false, false, false, false, false, false, false, false, false, false, false] rfl rfl (any_of HT_.out (by kernel_rfl)) (fun _ _ _ h => h) (Or.inl ⟨by rfl, ?_⟩) ?_ ?_
         rotate_left
         ·intro w'
          go_simp
          with_reducible rfl
         rotate_left
         ·simp only [Act.put, sA, sZ, sS, i64_w, i32_w]
          rfl
         refine pure_ (i := 4) (N := some 25) (v := undef) (a' := ?_) #[true, true, true, true, true, false, false, false, false, false, false, false, false, false, false, false, false] rfl rfl (any_of HT_.out (by kernel_rfl)) (fun _ _ _ h => h) (Or.inr ⟨by rfl, rfl⟩) ?_ ?_
         rotate_left
         ·simp only [Act.put, sA, sZ, sS, i64_w, i32_w]
          rfl
         refine pure_ (i := 5) (N := some 26) (v := undef) (a' := ?_) #[true, true, true, true, true, true, false, false, false, false, false, false, false, false, false, false, false] rfl rfl (any_of HT_.out (by kernel_rfl)) (fun _ _ _ h => h) (Or.inr ⟨by rfl, rfl⟩) ?_ ?_
         rotate_left
         ·simp only [Act.put, sA, sZ, sS, i64_w, i32_w]
          rfl
         refine pure_ (i := 6) (N := some 27) (v := undef) (a' := ?_) #[true, true, true, true, true, true, true, false, false, false, false, false, false, false, false, false, false] rfl rfl (any_of HT_.out (by kernel_rfl)) (fun _ _ _ h => h) (Or.inr ⟨by rfl, rfl⟩) ?_ ?_
         rotate_left
         ·simp only [Act.put, sA, sZ, sS, i64_w, i32_w]
          rfl
         refine pure_ (i := 7) (N := some 28) (v := undef) (a' := ?_) #[true, true, true, true, true, true, true, true, false, false, false, false, false, false, false, false, false] rfl rfl (any_of HT_.out (by kernel_rfl)) (fun _ _ _ h => h) (Or.inr ⟨by rfl, rfl⟩) ?_ ?_
         rotate_left
         ·simp only [Act.put, sA, sZ, sS, i64_w, i32_w]
          rfl
         refine pure_ (i := 8) (N := some 29) (v := undef) (a' := ?_) #[true, true, true, true, true, true, true, true, true, false, false, false, false, false, false, false, false] rfl rfl (any_of HT_.out (by kernel_rfl)) (fun _ _ _ h => h) (Or.inr ⟨by rfl, rfl⟩) ?_ ?_
         rotate_left
         ·simp only [Act.put, sA, sZ, sS, i64_w, i32_w]
          rfl
         refine pure_ (i := 9) (N := some 30) (v := undef) (a' := ?_) #[true, true, true, true, true, true, true, true, true, true, false, false, false, false, false, false, false] rfl rfl (any_of HT_.out (by kernel_rfl)) (fun _ _ _ h => h) (Or.inr ⟨by rfl, rfl⟩) ?_ ?_
         rotate_left
         ·simp only [Act.put, sA, sZ, sS, i64_w, i32_w]
          rfl
         refine pure_ (i := 10) (N := some 31) (v := undef) (a' := ?_) #[true, true, true, true, true, true, true, true, true, true, true, false, false, false, false, false, false] rfl rfl (any_of HT_.out (by kernel_rfl)) (fun _ _ _ h => h) (Or.inr ⟨by rfl, rfl⟩) ?_ ?_
         rotate_left
         ·simp only [Act.put, sA, sZ, sS, i64_w, i32_w]
          rfl
         refine pure_ (i := 11) (N := some 32) (v := undef) (a' := ?_) #[true, true, true, true, true, true, true, true, true, true, true, true, false, false, false, false, false] rfl rfl (any_of HT_.out (by kernel_rfl)) (fun _ _ _ h => h) (Or.inr ⟨by rfl, rfl⟩) ?_ ?_
         rotate_left
         ·simp only [Act.put, sA, sZ, sS, i64_w, i32_w]
          rfl
         refine pure_ (i := 12) (N := some 33) (v := undef) (a' := ?_) #[true, true, true, true, true, true, true, true, true, true, true, true, true, false, false, false, false] rfl rfl (any_of HT_.out (by kernel_rfl)) (fun _ _ _ h => h) (Or.inr ⟨by rfl, rfl⟩) ?_ ?_
         rotate_left
         ·simp only [Act.put, sA, sZ, sS, i64_w, i32_w]
          rfl
         refine pure_ (i := 13) (N := some 34) (v := undef) (a' := ?_) #[true, true, true, true, true, true, true, true, true, true, true, true, true, true, false, false, false] rfl rfl (any_of HT_.out (by kernel_rfl)) (fun _ _ _ h => h) (Or.inr ⟨by rfl, rfl⟩) ?_ ?_
         rotate_left
         ·simp only [Act.put, sA, sZ, sS, i64_w, i32_w]
          rfl
         refine pure_ (i := 14) (N := some 35) (v := undef) (a' := ?_) #[true, true, true, true, true, true, true, true, true, true, true, true, true, true, true, false, false] rfl rfl (any_of HT_.out (by kernel_rfl)) (fun _ _ _ h => h) (Or.inr ⟨by rfl, rfl⟩) ?_ ?_
         rotate_left
         ·simp only [Act.put, sA, sZ, sS, i64_w, i32_w]
          rfl
         refine pure_ (i := 15) (N := some 36) (v := undef) (a' := ?_) #[true, true, true, true, true, true, true, true, true, true, true, true, true, true, true, true, false] rfl rfl (any_of HT_.out (by kernel_rfl)) (fun _ _ _ h => h) (Or.inr ⟨by rfl, rfl⟩) ?_ ?_
         rotate_left
         ·simp only [Act.put, sA, sZ, sS, i64_w, i32_w]
          rfl
         refine pure_ (i := 16) (N := some 37) (v := ?_) (a' := ?_) #[true, true, true, true, true, true, true, true, true, true, true, true, true, true, true, true, true] rfl rfl (any_of HT_.out (by kernel_rfl)) (fun _ _ _ h => h) (Or.inl ⟨by rfl, ?_⟩) ?_ ?_
         rotate_left
         ·intro w'
          go_simp
          with_reducible rfl
         rotate_left
         ·simp only [Act.put, sA, sZ, sS, i64_w, i32_w]
          rfl
         refine done_ (done_of HT_.out (by kernel_rfl)) ?_
         obtain ⟨Ao44, co44, eo44⟩ := Kd.R_slice HO_5.out
         subst eo44
         have hnb45 := NB172_171.out
         have hnc45 := NB171_172.out
         have hcz46_0 : w42.cell? ⟨gb172, 0, none⟩ = some (.slice none 0 0) := (blk_cell BK172.out 0).trans rfl
         have hcz46_1 : w42.cell? ⟨gb172, 1, none⟩ = some (.slice none 0 0) := (blk_cell BK172.out 1).trans rfl
         have hfz46_0 := blk_frozen BK172.out 0
         have hfz46_1 := blk_frozen BK172.out 1
         try go_wp2
         refine bodyPost_ret (results_cell_row rfl _ _ gb172 60 #[.slice Ao43 x4_2.length co43, .slice Ao44 x5_2.length co44] (0, 0) _ rfl (by refine blk_put (cs := #[.slice Ao43 x4_2.length co43, .slice none 0 0]) ?_ 1 _ rfl; refine blk_put (cs := #[.slice none 0 0, .slice none 0 0]) ?_ 0 _ rfl; exact BK172.out) Try.underlying60 rfl (by kernel_rfl)) rfl ?_
         exact ⟨_, _, by first | rfl | (simp [*, errW_none, errW_some] <;> rfl), by exact Kd.R_mono (Kd.R_far (p := ⟨gb172, 1, none⟩) (Kd.R_far (p := ⟨gb172, 0, none⟩) (Kd.R_types HO_4.out BK172.out (by decide)) (fun _ hk => hk.2) (.slice Ao43 x4_2.length co43)) (fun _ hk => hk.2) (.slice Ao44 x5_2.length co44)) (fun _ hk => hk.1), by exact Kd.R_mono (Kd.R_far (p := ⟨gb172, 1, none⟩) (Kd.R_far (p := ⟨gb172, 0, none⟩) (Kd.R_types HO_5.out BK172.out (by decide)) (fun _ hk => hk.2) (.slice Ao43 x4_2.length co43)) (fun _ hk => hk.2) (.slice Ao44 x5_2.length co44)) (fun _ hk => hk.1), by repeat (first | (with_reducible first | exact HB.out | refine bS ?_ GE172.out))⟩
     ·rw [if_neg c8] at H
      exact absurd H (by simp)
    ·rw [if_neg c7] at H
     exact absurd H (by simp)
   ·replace c5 := Bool.eq_false_iff.mpr c5
    subst c5
    replace H : (impl_set_tidy.l0 k1 (wrap64 (x3_1 + 1)) l0_0 l0_1) = some (r1, r2) := by rw [if_neg (show ¬ (false = true) by decide)] at H; exact H
    have H' := aM H
    clear H
    have hnb47 := NB171_172.out
    have hnc47 := NB172_171.out
    have hcz48_0 : wr.cell? ⟨gb171, 0, none⟩ = some (.slice A0_0 l0_0.length c0_0) := (blk_cell BK171.out 0).trans rfl
    have hcz48_1 : wr.cell? ⟨gb171, 1, none⟩ = some (.slice A0_1 l0_1.length c0_1) := (blk_cell BK171.out 1).trans rfl
    have hfz48_0 := blk_frozen BK171.out 0
    have hfz48_1 := blk_frozen BK171.out 1
    go_wp2_with (first | ((with_reducible refine gate_callee (f := 122) rfl ?_); refine goesL_ (some 9) rfl rfl Try.func122 (by kernel_rfl) rfl #[.slice A0_1 l0_1.length c0_1, .int .i64 x3_1] rfl (by (try simp only [List.map_toArray, List.map_cons, List.map_nil]); rfl) ?_; (with_reducible refine (impl_turns.calls k1 _ _ l0_1 x3_1 false _ ?side1 ?side2 A4.out).mono ?_); (case side1 => repeat (exact (Kd.C_below HR0_1.out HB.out))); (case side2 => exact HC0_1.out); rintro e w' ⟨rfl, ⟨nd, rfl⟩⟩; refine ⟨_, rfl, ?_⟩))
    go_roundg k1
    case measure => have := HK1.out; omega
    case rel => exact ⟨(wrap64 (x3_1 + 1)), (by rfl), H', ⟨by have := HK1.out; omega⟩, ⟨by (with_reducible repeat (refine kN ?_ _)); exact BK171.out⟩, ⟨by (with_reducible repeat (refine kN ?_ _)); exact BK172.out⟩, ⟨by repeat (first | (with_reducible first | exact HB.out | apply bN))⟩⟩


def impl_tidied.f (k : Nat) (a0 : ByteArray) : Option (List Bool × List Bool × Bool) := (impl_setOf.f a0).bind fun bt198 => (if bt198.2.2 = true then ((impl_set_tidy.f k bt198.1 bt198.2.1).bind fun bt206 => (some (bt206.1, bt206.2, true))) else (some (([] : List Bool), ([] : List Bool), false)))
theorem impl_tidied.mono : ∀ a0 k, LeO (impl_tidied.f k a0) (impl_tidied.f (k + 1) a0) := by
 intro a0 k
 unfold impl_tidied.f
 repeat' first | (with_reducible exact impl_set_tidy.mono _ _ _) | (with_reducible exact LeO.refl _) | (with_reducible refine LeO.ite ?_ ?_) | (with_reducible refine LeO.bind ?_ (fun _ => ?_))
set_option maxHeartbeats 8000000 in
set_option maxRecDepth 100000 in
theorem impl_tidied.calls (k : Nat) (a0 : ByteArray) (r1 : List Bool) (r2 : List Bool) (r3 : Bool) (w : World) (h : impl_tidied.f k a0 = some (r1, r2, r3)) :
  Calls Try.prog 88 #[.string a0] w fun e w' => ∃ v0_ v1_ : Value, e = .returned (.tuple #[.agg #[v0_, v1_], .bool r3]) ∧ Kd.R Kd.bool 4 w' w.heap.size (fun k_ => some k_ ≠ (v1_ : Value).ownBlock) v0_ r1 ∧ Kd.R Kd.bool 4 w' w.heap.size (fun k_ => some k_ ≠ (v0_ : Value).ownBlock) v1_ r2 ∧ Below w.heap.size w w' := by
 have hu60 := Try.underlying60
 have HB := aM (Below.refl w.heap.size w)
 have H : ((impl_setOf.f a0).bind fun bt198 => (if bt198.2.2 = true then ((impl_set_tidy.f k bt198.1 bt198.2.1).bind fun bt206 => (some (bt206.1, bt206.2, true))) else (some (([] : List Bool), ([] : List Bool), false)))) = some (r1, r2, r3) := h
 clear h
 replace H := Option.bind_eq_some_iff.mp H
 obtain ⟨⟨t198, t201, t204⟩, A20, H⟩ := H
 replace H : (if t204 = true then ((impl_set_tidy.f k t198 t201).bind fun bt206 => (some (bt206.1, bt206.2, true))) else (some (([] : List Bool), ([] : List Bool), false))) = some (r1, r2, r3) := H
 have A2 := aM A20
 clear A20
 by_cases c3 : t204 = true
 ·subst c3
  replace H : ((impl_set_tidy.f k t198 t201).bind fun bt206 => (some (bt206.1, bt206.2, true))) = some (r1, r2, r3) := by rw [if_pos rfl] at H; exact H
  replace H := Option.bind_eq_some_iff.mp H
  obtain ⟨⟨t206, t209⟩, A40, H⟩ := H
  replace H : (some (t206, t209, true)) = some (r1, r2, r3) := H
  have A4 := aM A40
  clear A40
  simp only [Option.some.injEq, Prod.mk.injEq] at H
  obtain ⟨rfl, rfl, rfl⟩ := H
  go_enter Try.func88, Try.ntmps88
  go_wp2_with (first | ((with_reducible refine gate_dst (N := 2) rfl ?_); refine box_event ?hg (N := 2) ?hd (cs := #[.slice none 0 0, .slice none 0 0]) (t := 60) ?hr ?_; (case hd => rfl); (case hg => rfl); (case hr => first | (go_simp; done)); intro gb197 hg w5 hbox hb; have BK197 := aM hbox; have GW197 := aM ((by rw [hg]; exact (below_size HB.out) : w.heap.size ≤ gb197)); have GE197 := aM ((by rw [hg]; exact (below_size HB.out) : w.heap.size ≤ gb197)); replace HB := aM (below_step HB.out hb); clear hb hbox hg) | ((with_reducible refine gate_callee (f := 60) rfl ?_); refine goesL_ (some 8) rfl rfl Try.func60 (by kernel_rfl) rfl #[.string a0] rfl (by (try simp only [List.map_toArray, List.map_cons, List.map_nil]); rfl) ?_; (with_reducible refine (impl_setOf.calls a0 t198 t201 true _ A2.out).mono ?_); rintro e w6 ⟨v199, v202, rfl, ho0, ho1, hb⟩; refine ⟨_, rfl, ?_⟩; have HO200 := aM (Kd.R_lower ho0 (below_size HB.out)); have HO203 := aM (Kd.R_lower ho1 (below_size HB.out)); replace BK197 := aM (blk_below (g := gb197) (o := .cells #[.slice none 0 0, .slice none 0 0] 60 (0, 0)) BK197.out hb); replace HB := aM (below_step HB.out hb); (try clear hb); (try clear ho0); (try clear ho1)) | ((with_reducible refine gate_dst (N := 4) rfl ?_); refine box_event ?hg (N := 4) ?hd (cs := #[.slice none 0 0, .slice none 0 0]) (t := 60) ?hr ?_; (case hd => rfl); (case hg => rfl); (case hr => first | (go_simp; done)); intro gb205 hg w7 hbox hb; replace HO200 := aM (Kd.R_below HO200.out hb); replace HO203 := aM (Kd.R_below HO203.out hb); have BK205 := aM hbox; have GW205 := aM ((by rw [hg]; exact (below_size HB.out) : w.heap.size ≤ gb205)); have GE205 := aM ((by rw [hg]; exact (below_size HB.out) : w.heap.size ≤ gb205)); replace HB := aM (below_step HB.out hb); have NB197_205 := aM ((by rw [hg]; exact Nat.ne_of_lt (blk_lt (g := gb197) (o := .cells #[.slice none 0 0, .slice none 0 0] 60 (0, 0)) BK197.out) : gb197 ≠ gb205)); have NB205_197 := aM ((by rw [hg]; exact Nat.ne_of_gt (blk_lt (g := gb197) (o := .cells #[.slice none 0 0, .slice none 0 0] 60 (0, 0)) BK197.out) : gb205 ≠ gb197)); replace BK197 := aM (blk_below (g := gb197) (o := .cells #[.slice none 0 0, .slice none 0 0] 60 (0, 0)) BK197.out hb); clear hb hbox hg; obtain ⟨Ao8, co8, eo8⟩ := Kd.R_slice HO200.out; subst eo8; have hnb9 := NB205_197.out; have hnc9 := NB197_205.out; have hcz10_0 : w7.cell? ⟨gb205, 0, none⟩ = some (.slice none 0 0) := (blk_cell BK205.out 0).trans rfl; have hcz10_1 : w7.cell? ⟨gb205, 1, none⟩ = some (.slice none 0 0) := (blk_cell BK205.out 1).trans rfl; have hfz10_0 := blk_frozen BK205.out 0; have hfz10_1 := blk_frozen BK205.out 1; obtain ⟨Ao11, co11, eo11⟩ := Kd.R_slice HO203.out; subst eo11) | ((with_reducible refine gate_callee (f := 112) rfl ?_); refine goesL_ (some 15) rfl rfl Try.func112 (by kernel_rfl) rfl #[.agg #[.slice Ao8 t198.length co8, .slice Ao11 t201.length co11]] rfl (by (try simp only [List.map_toArray, List.map_cons, List.map_nil]); rfl) ?_; (with_reducible refine (impl_set_tidy.calls k _ _ t198 _ _ t201 t206 t209 _ ?side1 ?side2 ?side3 ?side4 A4.out).mono ?_); (case side1 => refine (Kd.R_reads' (e := 4) (base := w.heap.size) (ok := fun k_ => some k_ ≠ (.slice Ao11 t201.length co11 : Value).ownBlock) (n := t198.length) (c := co8) ?_).2.2; exact (by exact (Kd.R_mono (Kd.R_far (p := ⟨gb205, 1, none⟩) (Kd.R_far (p := ⟨gb205, 0, none⟩) (Kd.R_types HO200.out BK205.out (by decide)) (fun _ hk => hk.2) (.slice Ao8 t198.length co8)) (fun _ hk => hk.2) (.slice Ao11 t201.length co11)) (fun _ h_ => h_.1)))); (case side2 => exact (Kd.R_reads' HO200.out).2.1); (case side3 => refine (Kd.R_reads' (e := 4) (base := w.heap.size) (ok := fun k_ => some k_ ≠ (.slice Ao8 t198.length co8 : Value).ownBlock) (n := t201.length) (c := co11) ?_).2.2; exact (by exact (Kd.R_mono (Kd.R_far (p := ⟨gb205, 1, none⟩) (Kd.R_far (p := ⟨gb205, 0, none⟩) (Kd.R_types HO203.out BK205.out (by decide)) (fun _ hk => hk.2) (.slice Ao8 t198.length co8)) (fun _ hk => hk.2) (.slice Ao11 t201.length co11)) (fun _ h_ => h_.1)))); (case side4 => exact (Kd.R_reads' HO203.out).2.1); rintro e w12 ⟨v207, v210, rfl, ho0, ho1, hb⟩; refine ⟨_, rfl, ?_⟩; have HO208 := aM (Kd.R_lower (Kd.R_new' (Kd.R_new' ho0 (Kd.R_lt (by exact (Kd.R_mono (Kd.R_far (p := ⟨gb205, 1, none⟩) (Kd.R_far (p := ⟨gb205, 0, none⟩) (Kd.R_types HO200.out BK205.out (by decide)) (fun _ hk => hk.2) (.slice Ao8 t198.length co8)) (fun _ hk => hk.2) (.slice Ao11 t201.length co11)) (fun _ h_ => h_.1))))) (Kd.R_lt (by exact (Kd.R_mono (Kd.R_far (p := ⟨gb205, 1, none⟩) (Kd.R_far (p := ⟨gb205, 0, none⟩) (Kd.R_types HO203.out BK205.out (by decide)) (fun _ hk => hk.2) (.slice Ao8 t198.length co8)) (fun _ hk => hk.2) (.slice Ao11 t201.length co11)) (fun _ h_ => h_.1))))) (below_size (by repeat (first | (with_reducible first | exact HB.out | refine bS ?_ GE205.out))))); have HO211 := aM (Kd.R_lower (Kd.R_new' (Kd.R_new' ho1 (Kd.R_lt (by exact (Kd.R_mono (Kd.R_far (p := ⟨gb205, 1, none⟩) (Kd.R_far (p := ⟨gb205, 0, none⟩) (Kd.R_types HO200.out BK205.out (by decide)) (fun _ hk => hk.2) (.slice Ao8 t198.length co8)) (fun _ hk => hk.2) (.slice Ao11 t201.length co11)) (fun _ h_ => h_.1))))) (Kd.R_lt (by exact (Kd.R_mono (Kd.R_far (p := ⟨gb205, 1, none⟩) (Kd.R_far (p := ⟨gb205, 0, none⟩) (Kd.R_types HO203.out BK205.out (by decide)) (fun _ hk => hk.2) (.slice Ao8 t198.length co8)) (fun _ hk => hk.2) (.slice Ao11 t201.length co11)) (fun _ h_ => h_.1))))) (below_size (by repeat (first | (with_reducible first | exact HB.out | refine bS ?_ GE205.out))))); replace HO200 := aM (Kd.R_mono (Kd.R_told (Kd.R_told (Kd.R_old (by exact (Kd.R_mono (Kd.R_far (p := ⟨gb205, 1, none⟩) (Kd.R_far (p := ⟨gb205, 0, none⟩) (Kd.R_types HO200.out BK205.out (by decide)) (fun _ hk => hk.2) (.slice Ao8 t198.length co8)) (fun _ hk => hk.2) (.slice Ao11 t201.length co11)) (fun _ h_ => h_.1))) hb) (Kd.R_base ho0)) (Kd.R_base ho1)) (fun _ h_ => h_.1)); replace HO203 := aM (Kd.R_mono (Kd.R_told (Kd.R_told (Kd.R_old (by exact (Kd.R_mono (Kd.R_far (p := ⟨gb205, 1, none⟩) (Kd.R_far (p := ⟨gb205, 0, none⟩) (Kd.R_types HO203.out BK205.out (by decide)) (fun _ hk => hk.2) (.slice Ao8 t198.length co8)) (fun _ hk => hk.2) (.slice Ao11 t201.length co11)) (fun _ h_ => h_.1))) hb) (Kd.R_base ho0)) (Kd.R_base ho1)) (fun _ h_ => h_.1)); replace BK197 := aM (blk_below (g := gb197) (o := .cells #[.slice none 0 0, .slice none 0 0] 60 (0, 0)) (by refine blk_far ?_ NB197_205.out _; refine blk_far ?_ NB197_205.out _; exact BK197.out) hb); replace BK205 := aM (blk_below (g := gb205) (o := .cells #[.slice Ao8 t198.length co8, .slice Ao11 t201.length co11] 60 (0, 0)) (by refine blk_put (cs := #[.slice Ao8 t198.length co8, .slice none 0 0]) ?_ 1 _ rfl; refine blk_put (cs := #[.slice none 0 0, .slice none 0 0]) ?_ 0 _ rfl; exact BK205.out) hb); replace HB := aM (below_step (by repeat (first | (with_reducible first | exact HB.out | refine bS ?_ GE205.out))) hb); (try clear hb); (try clear ho0); (try clear ho1); obtain ⟨Ao13, co13, eo13⟩ := Kd.R_slice HO208.out; subst eo13; have hcz14_0 : w12.cell? ⟨gb197, 0, none⟩ = some (.slice none 0 0) := (blk_cell BK197.out 0).trans rfl; have hcz14_1 : w12.cell? ⟨gb197, 1, none⟩ = some (.slice none 0 0) := (blk_cell BK197.out 1).trans rfl; have hfz14_0 := blk_frozen BK197.out 0; have hfz14_1 := blk_frozen BK197.out 1; obtain ⟨Ao15, co15, eo15⟩ := Kd.R_slice HO211.out; subst eo15))
  refine bodyPost_ret (results_ct rfl _ _ gb197 60 #[.slice Ao13 t206.length co13, .slice Ao15 t209.length co15] (0, 0) _ rfl (by refine blk_put (cs := #[.slice Ao13 t206.length co13, .slice none 0 0]) ?_ 1 _ rfl; refine blk_put (cs := #[.slice none 0 0, .slice none 0 0]) ?_ 0 _ rfl; exact BK197.out) Try.underlying60 rfl (by kernel_rfl)) rfl ?_
  exact ⟨_, _, by first | rfl | (simp [*, errW_none, errW_some] <;> rfl), by exact Kd.R_mono (Kd.R_far (p := ⟨gb197, 1, none⟩) (Kd.R_far (p := ⟨gb197, 0, none⟩) (Kd.R_types HO208.out BK197.out (by decide)) (fun _ hk => hk.2) (.slice Ao13 t206.length co13)) (fun _ hk => hk.2) (.slice Ao15 t209.length co15)) (fun _ hk => hk.1.1.1), by exact Kd.R_mono (Kd.R_far (p := ⟨gb197, 1, none⟩) (Kd.R_far (p := ⟨gb197, 0, none⟩) (Kd.R_types HO211.out BK197.out (by decide)) (fun _ hk => hk.2) (.slice Ao13 t206.length co13)) (fun _ hk => hk.2) (.slice Ao15 t209.length co15)) (fun _ hk => hk.1.1.1), by repeat (first | (with_reducible first | exact HB.out | refine bS ?_ GE197.out))⟩
 ·replace c3 := Bool.eq_false_iff.mpr c3
  subst c3
  replace H : (some (([] : List Bool), ([] : List Bool), false)) = some (r1, r2, r3) := by rw [if_neg (show ¬ (false = true) by decide)] at H; exact H
  simp only [Option.some.injEq, Prod.mk.injEq] at H
  obtain ⟨rfl, rfl, rfl⟩ := H
  go_enter Try.func88, Try.ntmps88
  go_wp2_with (first | ((with_reducible refine gate_dst (N := 2) rfl ?_); refine box_event ?hg (N := 2) ?hd (cs := #[.slice none 0 0, .slice none 0 0]) (t := 60) ?hr ?_; (case hd => rfl); (case hg => rfl); (case hr => first | (go_simp; done)); intro gb197 hg w16 hbox hb; have BK197 := aM hbox; have GW197 := aM ((by rw [hg]; exact (below_size HB.out) : w.heap.size ≤ gb197)); have GE197 := aM ((by rw [hg]; exact (below_size HB.out) : w.heap.size ≤ gb197)); replace HB := aM (below_step HB.out hb); clear hb hbox hg) | ((with_reducible refine gate_callee (f := 60) rfl ?_); refine goesL_ (some 8) rfl rfl Try.func60 (by kernel_rfl) rfl #[.string a0] rfl (by (try simp only [List.map_toArray, List.map_cons, List.map_nil]); rfl) ?_; (with_reducible refine (impl_setOf.calls a0 t198 t201 false _ A2.out).mono ?_); rintro e w17 ⟨v199, v202, rfl, ho0, ho1, hb⟩; refine ⟨_, rfl, ?_⟩; have HO200 := aM (Kd.R_lower ho0 (below_size HB.out)); have HO203 := aM (Kd.R_lower ho1 (below_size HB.out)); replace BK197 := aM (blk_below (g := gb197) (o := .cells #[.slice none 0 0, .slice none 0 0] 60 (0, 0)) BK197.out hb); replace HB := aM (below_step HB.out hb); (try clear hb); (try clear ho0); (try clear ho1)) | ((with_reducible refine gate_dst (N := 4) rfl ?_); refine box_event ?hg (N := 4) ?hd (cs := #[.slice none 0 0, .slice none 0 0]) (t := 60) ?hr ?_; (case hd => rfl); (case hg => rfl); (case hr => first | (go_simp; done)); intro gb205 hg w18 hbox hb; replace HO200 := aM (Kd.R_below HO200.out hb); replace HO203 := aM (Kd.R_below HO203.out hb); have BK205 := aM hbox; have GW205 := aM ((by rw [hg]; exact (below_size HB.out) : w.heap.size ≤ gb205)); have GE205 := aM ((by rw [hg]; exact (below_size HB.out) : w.heap.size ≤ gb205)); replace HB := aM (below_step HB.out hb); have NB197_205 := aM ((by rw [hg]; exact Nat.ne_of_lt (blk_lt (g := gb197) (o := .cells #[.slice none 0 0, .slice none 0 0] 60 (0, 0)) BK197.out) : gb197 ≠ gb205)); have NB205_197 := aM ((by rw [hg]; exact Nat.ne_of_gt (blk_lt (g := gb197) (o := .cells #[.slice none 0 0, .slice none 0 0] 60 (0, 0)) BK197.out) : gb205 ≠ gb197)); replace BK197 := aM (blk_below (g := gb197) (o := .cells #[.slice none 0 0, .slice none 0 0] 60 (0, 0)) BK197.out hb); clear hb hbox hg; obtain ⟨Ao19, co19, eo19⟩ := Kd.R_slice HO200.out; subst eo19; have hnb20 := NB205_197.out; have hnc20 := NB197_205.out; have hcz21_0 : w18.cell? ⟨gb205, 0, none⟩ = some (.slice none 0 0) := (blk_cell BK205.out 0).trans rfl; have hcz21_1 : w18.cell? ⟨gb205, 1, none⟩ = some (.slice none 0 0) := (blk_cell BK205.out 1).trans rfl; have hfz21_0 := blk_frozen BK205.out 0; have hfz21_1 := blk_frozen BK205.out 1; obtain ⟨Ao22, co22, eo22⟩ := Kd.R_slice HO203.out; subst eo22; have hcz23_0 : w18.cell? ⟨gb197, 0, none⟩ = some (.slice none 0 0) := (blk_cell BK197.out 0).trans rfl; have hcz23_1 : w18.cell? ⟨gb197, 1, none⟩ = some (.slice none 0 0) := (blk_cell BK197.out 1).trans rfl; have hfz23_0 := blk_frozen BK197.out 0; have hfz23_1 := blk_frozen BK197.out 1))
  refine bodyPost_ret (results_ct rfl _ _ gb197 60 #[.slice none 0 0, .slice none 0 0] (0, 0) _ rfl (by refine blk_put (cs := #[.slice none 0 0, .slice none 0 0]) ?_ 1 _ rfl; refine blk_put (cs := #[.slice none 0 0, .slice none 0 0]) ?_ 0 _ rfl; refine blk_far ?_ NB197_205.out _; refine blk_far ?_ NB197_205.out _; exact BK197.out) Try.underlying60 rfl (by kernel_rfl)) rfl ?_
  exact ⟨_, _, by first | rfl | (simp [*, errW_none, errW_some] <;> rfl), by first | exact Kd.R_nil _ _ _ _ _ | exact Kd.S_nil _ _ _ _ _, by first | exact Kd.R_nil _ _ _ _ _ | exact Kd.S_nil _ _ _ _ _, by repeat (first | (with_reducible first | exact HB.out | refine bS ?_ GE197.out | refine bS ?_ GE205.out))⟩


def impl_small.f (k : Nat) (a0 : ByteArray) : Option (List Bool × List Bool × Bool) := (impl_tidied.f k a0).bind fun bt213 => (if bt213.2.2 = true then (if (bt213.1.length : Int) ≤ 8 then (some (bt213.1, bt213.2.1, decide ((bt213.2.1.length : Int) ≤ 8))) else (some (bt213.1, bt213.2.1, false))) else (some (bt213.1, bt213.2.1, false)))
theorem impl_small.mono : ∀ a0 k, LeO (impl_small.f k a0) (impl_small.f (k + 1) a0) := by
 intro a0 k
 unfold impl_small.f
 repeat' first | (with_reducible exact impl_tidied.mono _ _) | (with_reducible exact LeO.refl _) | (with_reducible refine LeO.bind ?_ (fun _ => ?_))
def impl_small.T2 : Bool × List (List Nat × List Nat) := (true, [([], []), ([], []), ([1], [1]), ([2], [2]), ([3, 2], [2, 3]), ([4, 2], [2, 4]), ([5, 2], [2, 5]), ([2, 6], [2, 6]), ([7, 2], [7]), ([8], [8]), ([9, 8], [8, 9]), ([10, 8], [8, 10]), ([11, 8], [8, 11]), ([8, 12], [8, 12]), ([0, 8, 0], [0]), ([13, 14, 0, 1, 2, 3, 4, 5, 6, 7, 8, 9, 10, 11, 12, 13, 14], [13])])
def impl_small.B2 : List Nat := [0, 0, 2, 6, 14, 30, 62, 126, 254, 510, 1022, 2046, 4094, 8190, 511, 32767]
theorem impl_small.tab2 : rtab .any (opsOf Try.f64 2) = impl_small.T2 := by kernel_rfl
theorem impl_small.bits2 : waitsOk impl_small.T2.2 impl_small.B2 = true := by kernel_rfl
set_option maxHeartbeats 8000000 in
set_option maxRecDepth 100000 in
theorem impl_small.calls (k : Nat) (a0 : ByteArray) (r1 : List Bool) (r2 : List Bool) (r3 : Bool) (w : World) (h : impl_small.f k a0 = some (r1, r2, r3)) :
  Calls Try.prog 64 #[.string a0] w fun e w' => ∃ v0_ v1_ : Value, e = .returned (.tuple #[.agg #[v0_, v1_], .bool r3]) ∧ Kd.R Kd.bool 4 w' w.heap.size (fun k_ => some k_ ≠ (v1_ : Value).ownBlock) v0_ r1 ∧ Kd.R Kd.bool 4 w' w.heap.size (fun k_ => some k_ ≠ (v0_ : Value).ownBlock) v1_ r2 ∧ Below w.heap.size w w' := by
 have hu60 := Try.underlying60
 have HB := aM (Below.refl w.heap.size w)
 have H : ((impl_tidied.f k a0).bind fun bt213 => (if bt213.2.2 = true then (if (bt213.1.length : Int) ≤ 8 then (some (bt213.1, bt213.2.1, decide ((bt213.2.1.length : Int) ≤ 8))) else (some (bt213.1, bt213.2.1, false))) else (some (bt213.1, bt213.2.1, false)))) = some (r1, r2, r3) := h
 clear h
 replace H := Option.bind_eq_some_iff.mp H
 obtain ⟨⟨t213, t216, t219⟩, A20, H⟩ := H
 replace H : (if t219 = true then (if (t213.length : Int) ≤ 8 then (some (t213, t216, decide ((t216.length : Int) ≤ 8))) else (some (t213, t216, false))) else (some (t213, t216, false))) = some (r1, r2, r3) := H
 have A2 := aM A20
 clear A20
 by_cases c3 : t219 = true
 ·subst c3
  replace H : (if (t213.length : Int) ≤ 8 then (some (t213, t216, decide ((t216.length : Int) ≤ 8))) else (some (t213, t216, false))) = some (r1, r2, r3) := by rw [if_pos rfl] at H; exact H
  by_cases c4 : (t213.length : Int) ≤ 8
  all_goals
   first
   |rw [if_pos c4] at H
    have c4b0 : decide ((t213.length : Int) ≤ 8) = true := decide_eq_true c4
    have c4b1 : decide (t213.length ≤ 8) = true := decide_eq_true (by omega)
   |rw [if_neg c4] at H
    have c4b0 : decide ((t213.length : Int) ≤ 8) = false := decide_eq_false c4
    have c4b1 : decide (t213.length ≤ 8) = false := decide_eq_false (by omega)
   clear c4
   simp only [Option.some.injEq, Prod.mk.injEq] at H
   obtain ⟨rfl, rfl, rfl⟩ := H
   go_enter Try.func64, Try.ntmps64
   try go_wp2_with (first | ((with_reducible refine gate_dst (N := 2) rfl ?_); (try (refine gate_guard (by rfl) ?_; dsimp only)); refine box_event ?hg (N := 2) ?hd (cs := #[.slice none 0 0, .slice none 0 0]) (t := 60) ?hr ?_; (case hd => rfl); (case hg => rfl); (case hr => first | (go_simp; done)); intro gb212 hg w5 hbox hb; have BK212 := aM hbox; have GW212 := aM ((by rw [hg]; exact (below_size HB.out) : w.heap.size ≤ gb212)); have GE212 := aM ((by rw [hg]; exact (below_size HB.out) : w.heap.size ≤ gb212)); replace HB := aM (below_step HB.out hb); clear hb hbox hg) | ((with_reducible refine gate_callee (f := 88) rfl ?_); refine goesL_ (some 8) rfl rfl Try.func88 (by kernel_rfl) rfl #[.string a0] rfl (by (try simp only [List.map_toArray, List.map_cons, List.map_nil]); rfl) ?_; (with_reducible refine (impl_tidied.calls k a0 t213 t216 true _ A2.out).mono ?_); rintro e w6 ⟨v214, v217, rfl, ho0, ho1, hb⟩; refine ⟨_, rfl, ?_⟩; have HO215 := aM (Kd.R_lower ho0 (below_size HB.out)); have HO218 := aM (Kd.R_lower ho1 (below_size HB.out)); replace BK212 := aM (blk_below (g := gb212) (o := .cells #[.slice none 0 0, .slice none 0 0] 60 (0, 0)) BK212.out hb); replace HB := aM (below_step HB.out hb); (try clear hb); (try clear ho0); (try clear ho1)) | ((with_reducible refine gate_dst (N := 4) rfl ?_); (try (refine gate_guard (by rfl) ?_; dsimp only)); refine box_event ?hg (N := 4) ?hd (cs := #[.slice none 0 0, .slice none 0 0]) (t := 60) ?hr ?_; (case hd => rfl); (case hg => rfl); (case hr => first | (go_simp; done)); intro gb220 hg w7 hbox hb; replace HO215 := aM (Kd.R_below HO215.out hb); replace HO218 := aM (Kd.R_below HO218.out hb); have BK220 := aM hbox; have GW220 := aM ((by rw [hg]; exact (below_size HB.out) : w.heap.size ≤ gb220)); have GE220 := aM ((by rw [hg]; exact (below_size HB.out) : w.heap.size ≤ gb220)); replace HB := aM (below_step HB.out hb); have NB212_220 := aM ((by rw [hg]; exact Nat.ne_of_lt (blk_lt (g := gb212) (o := .cells #[.slice none 0 0, .slice none 0 0] 60 (0, 0)) BK212.out) : gb212 ≠ gb220)); have NB220_212 := aM ((by rw [hg]; exact Nat.ne_of_gt (blk_lt (g := gb212) (o := .cells #[.slice none 0 0, .slice none 0 0] 60 (0, 0)) BK212.out) : gb220 ≠ gb212)); replace BK212 := aM (blk_below (g := gb212) (o := .cells #[.slice none 0 0, .slice none 0 0] 60 (0, 0)) BK212.out hb); clear hb hbox hg; obtain ⟨Ao8, co8, eo8⟩ := Kd.R_slice HO215.out; subst eo8; have hnb9 := NB220_212.out; have hnc9 := NB212_220.out; have hcz10_0 : w7.cell? ⟨gb220, 0, none⟩ = some (.slice none 0 0) := (blk_cell BK220.out 0).trans rfl; have hcz10_1 : w7.cell? ⟨gb220, 1, none⟩ = some (.slice none 0 0) := (blk_cell BK220.out 1).trans rfl; have hfz10_0 := blk_frozen BK220.out 0; have hfz10_1 := blk_frozen BK220.out 1; obtain ⟨Ao11, co11, eo11⟩ := Kd.R_slice HO218.out; subst eo11))
   have n0_ : Aside0 (Kd.R Kd.bool 4 ((w7.setCell ⟨gb220, 0, none⟩ (.slice Ao8 t213.length co8)).setCell ⟨gb220, 1, none⟩ (.slice Ao11 t216.length co11)) w.heap.size (fun k_ => some k_ ≠ (.slice Ao11 t216.length co11 : Value).ownBlock) (.slice Ao8 t213.length co8) t213) := ⟨by exact Kd.R_mono (Kd.R_far (p := ⟨gb220, 1, none⟩) (Kd.R_far (p := ⟨gb220, 0, none⟩) (Kd.R_types HO215.out BK220.out (by decide)) (fun _ hk => hk.2) (.slice Ao8 t213.length co8)) (fun _ hk => hk.2) (.slice Ao11 t216.length co11)) (fun _ hk => hk.1)⟩
   have n1_ : Aside0 (Kd.R Kd.bool 4 ((w7.setCell ⟨gb220, 0, none⟩ (.slice Ao8 t213.length co8)).setCell ⟨gb220, 1, none⟩ (.slice Ao11 t216.length co11)) w.heap.size (fun k_ => some k_ ≠ (.slice Ao8 t213.length co8 : Value).ownBlock) (.slice Ao11 t216.length co11) t216) := ⟨by exact Kd.R_mono (Kd.R_far (p := ⟨gb220, 1, none⟩) (Kd.R_far (p := ⟨gb220, 0, none⟩) (Kd.R_types HO218.out BK220.out (by decide)) (fun _ hk => hk.2) (.slice Ao8 t213.length co8)) (fun _ hk => hk.2) (.slice Ao11 t216.length co11)) (fun _ hk => hk.1)⟩
   have n2_ : Aside0 (((w7.setCell ⟨gb220, 0, none⟩ (.slice Ao8 t213.length co8)).setCell ⟨gb220, 1, none⟩ (.slice Ao11 t216.length co11)).heap[gb212]? = some (.cells #[.slice none 0 0, .slice none 0 0] 60 (0, 0))) := ⟨by refine blk_far ?_ NB212_220.out _; refine blk_far ?_ NB212_220.out _; exact BK212.out⟩
   have n3_ : Aside0 (((w7.setCell ⟨gb220, 0, none⟩ (.slice Ao8 t213.length co8)).setCell ⟨gb220, 1, none⟩ (.slice Ao11 t216.length co11)).heap[gb220]? = some (.cells #[.slice Ao8 t213.length co8, .slice Ao11 t216.length co11] 60 (0, 0))) := ⟨by refine blk_put (cs := #[.slice Ao8 t213.length co8, .slice none 0 0]) ?_ 1 _ rfl; refine blk_put (cs := #[.slice none 0 0, .slice none 0 0]) ?_ 0 _ rfl; exact BK220.out⟩
   have n4_ : Aside0 (Below w.heap.size w ((w7.setCell ⟨gb220, 0, none⟩ (.slice Ao8 t213.length co8)).setCell ⟨gb220, 1, none⟩ (.slice Ao11 t216.length co11))) := ⟨by repeat (first | (with_reducible first | exact HB.out | refine bS ?_ GE220.out))⟩
   (try clear HO215)
   (try clear HO218)
   (try clear BK212)
   (try clear BK220)
   (try clear HB)
   generalize ((w7.setCell ⟨gb220, 0, none⟩ (.slice Ao8 t213.length co8)).setCell ⟨gb220, 1, none⟩ (.slice Ao11 t216.length co11)) = w12 at n0_ n1_ n2_ n3_ n4_ ⊢
   have HO215 := n0_
   have HO218 := n1_
   have BK212 := n2_
   have BK220 := n3_
   have HB := n4_
   clear n0_ n1_ n2_ n3_ n4_
   replace HO215 := aM (rD HO215.out)
   replace HO218 := aM (rD HO218.out)
   replace BK212 := aM (kD BK212.out)
   replace BK220 := aM (kD BK220.out)
   replace HB := aM (b1 HB.out)
   refine start_ (n := 16) (S := fun w' => w'.cell? ⟨gb220, 0, none⟩ = some (.slice Ao8 t213.length co8) ∧ w'.cell? ⟨gb220, 1, none⟩ = some (.slice Ao11 t216.length co11)) (ds := []) #[false, false, false, false, false, false, false, false, false, false, false, false, false, false, false, false] (by kernel_rfl) rfl rfl ⟨(blk_cell BK220.out 0).trans rfl, (blk_cell BK220.out 1).trans rfl⟩ (fun hHeld => ?_); refine with_tabW impl_small.tab2 impl_small.bits2 (fun HT_ HW_ => ?_)
   generalize w12.drew = w13 at HO215 HO218 BK212 BK220 HB hHeld ⊢
   refine pure_ (i := 1) (N := some 12) (v := ?_) (a' := ?_) #[false, true, false, false, false, false, false, false, false, false, false, false, false, false, false, false] rfl rfl (any_of HT_.out (by kernel_rfl)) (fun _ _ _ h => h) (Or.inl ⟨by rfl, ?_⟩) ?_ ?_
   rotate_left
   ·intro w'
    go_simp
    with_reducible rfl
   rotate_left
   ·simp only [Act.put, sA, sZ, sS, i64_w, i32_w]
    rfl
   refine pure_ (i := 2) (N := some 13) (v := ?_) (a' := ?_) #[false, true, true, false, false, false, false, false, false, false, false, false, false, false, false, false] rfl rfl (any_of HT_.out (by kernel_rfl)) (fun _ _ _ h => h) (Or.inl ⟨by rfl, ?_⟩) ?_ ?_
   rotate_left
   ·intro w'
    go_simp
    with_reducible rfl
   rotate_left
   ·simp only [Act.put, sA, sZ, sS, i64_w, i32_w]
    rfl
   refine pure_ (i := 3) (N := some 14) (v := ?_) (a' := ?_) #[false, true, true, true, false, false, false, false, false, false, false, false, false, false, false, false] rfl rfl (any_of HT_.out (by kernel_rfl)) (fun _ _ _ h => h) (Or.inl ⟨by rfl, ?_⟩) ?_ ?_
   rotate_left
   ·intro w'
    go_simp
    with_reducible rfl
   rotate_left
   ·simp only [Act.put, sA, sZ, sS, i64_w, i32_w]
    rfl
   refine take_ (i := 0) (N := some 11) (v := ?_) (a' := ?_) #[true, true, true, true, false, false, false, false, false, false, false, false, false, false, false, false] rfl rfl (take_ofW HT_.out HW_.out (by kernel_rfl)) (fun _ _ _ h => h) (Or.inl ⟨by rfl, ?_⟩) hHeld ?_ ?_
   rotate_left
   ·rintro w' ⟨s0, s1⟩
    go_simp
    with_reducible rfl
   rotate_left
   ·simp only [Act.put, sA, sZ, sS, i64_w, i32_w]
    rfl
   refine take_ (i := 4) (N := some 15) (v := ?_) (a' := ?_) #[true, true, true, true, true, false, false, false, false, false, false, false, false, false, false, false] rfl rfl (take_ofW HT_.out HW_.out (by kernel_rfl)) (fun _ _ _ h => h) (Or.inl ⟨by rfl, ?_⟩) hHeld ?_ ?_
   rotate_left
   ·rintro w' ⟨s0, s1⟩
    go_simp
    with_reducible rfl
   rotate_left
   ·simp only [Act.put, sA, sZ, sS, i64_w, i32_w]
    rfl
   refine pure_ (i := 5) (N := some 16) (v := ?_) (a' := ?_) #[true, true, true, true, true, true, false, false, false, false, false, false, false, false, false, false] rfl rfl (any_of HT_.out (by kernel_rfl)) (fun _ _ _ h => h) (Or.inl ⟨by rfl, ?_⟩) ?_ ?_
   rotate_left
   ·intro w'
    go_simp
    with_reducible rfl
   rotate_left
   ·simp only [Act.put, sA, sZ, sS, i64_w, i32_w]
    rfl
   refine pure_ (i := 6) (N := some 17) (v := ?_) (a' := ?_) #[true, true, true, true, true, true, true, false, false, false, false, false, false, false, false, false] rfl rfl (any_of HT_.out (by kernel_rfl)) (fun _ _ _ h => h) (Or.inl ⟨by rfl, ?_⟩) ?_ ?_
   rotate_left
   ·intro w'
    go_simp
    with_reducible rfl
   rotate_left
   ·simp only [Act.put, sA, sZ, sS, i64_w, i32_w]
    rfl
   refine pure_ (i := 7) (N := some 18) (v := ?_) (a' := ?_) #[true, true, true, true, true, true, true, true, false, false, false, false, false, false, false, false] rfl rfl (any_of HT_.out (by kernel_rfl)) (fun _ _ _ h => h) (Or.inl ⟨by rfl, ?_⟩) ?_ ?_
   rotate_left
   ·intro w'
    go_simp
    with_reducible rfl
   rotate_left
   ·simp only [Act.put, sA, sZ, sS, i64_w, i32_w]
    rfl
   refine pure_ (i := 8) (N := some 19) (v := ?_) (a' := ?_) #[true, true, true, true, true, true, true, true, true, false, false, false, false, false, false, false] rfl rfl (any_of HT_.out (by kernel_rfl)) (fun _ _ _ h => h) (Or.inl ⟨by rfl, ?_⟩) ?_ ?_
   rotate_left
   ·intro w'
    go_simp
    with_reducible rfl
   rotate_left
   ·simp only [Act.put, sA, sZ, sS, i64_w, i32_w]
    rfl
   first
   |refine pure_ (i := 9) (N := some 20) (v := ?_) (a' := ?_) #[true, true, true, true, true, true, true, true, true, true, false, false, false, false, false, false] rfl rfl (any_of HT_.out (by kernel_rfl)) (fun _ _ _ h => h) (Or.inl ⟨by rfl, ?_⟩) ?_ ?_
    rotate_left
    ·intro w'
     go_simp
     with_reducible rfl
   |refine pure_ (i := 9) (N := some 20) (v := undef) (a' := ?_) #[true, true, true, true, true, true, true, true, true, true, false, false, false, false, false, false] rfl rfl (any_of HT_.out (by kernel_rfl)) (fun _ _ _ h => h) (Or.inr ⟨by rfl, rfl⟩) ?_ ?_
   rotate_left
   ·simp only [Act.put, sA, sZ, sS, i64_w, i32_w]
    rfl
   first
   |refine take_ (i := 10) (N := some 21) (v := ?_) (a' := ?_) #[true, true, true, true, true, true, true, true, true, true, true, false, false, false, false, false] rfl rfl (take_ofW HT_.out HW_.out (by kernel_rfl)) (fun _ _ _ h => h) (Or.inl ⟨by rfl, ?_⟩) hHeld ?_ ?_
    rotate_left
    ·rintro w' ⟨s0, s1⟩
     go_simp
     with_reducible rfl
   |refine pure_ (i := 10) (N := some 21) (v := undef) (a' := ?_) #[true, true, true, true, true, true, true, true, true, true, true, false, false, false, false, false] rfl rfl (any_of HT_.out (by kernel_rfl)) (fun _ _ _ h => h) (Or.inr ⟨by rfl, rfl⟩) ?_ ?_
   rotate_left
   ·simp only [Act.put, sA, sZ, sS, i64_w, i32_w]
    rfl
   first
   |refine pure_ (i := 11) (N := some 22) (v := ?_) (a' := ?_) #[true, true, true, true, true, true, true, true, true, true, true, true, false, false, false, false] rfl rfl (any_of HT_.out (by kernel_rfl)) (fun _ _ _ h => h) (Or.inl ⟨by rfl, ?_⟩) ?_ ?_
    rotate_left
    ·intro w'
     go_simp
     with_reducible rfl
   |refine pure_ (i := 11) (N := some 22) (v := undef) (a' := ?_) #[true, true, true, true, true, true, true, true, true, true, true, true, false, false, false, false] rfl rfl (any_of HT_.out (by kernel_rfl)) (fun _ _ _ h => h) (Or.inr ⟨by rfl, rfl⟩) ?_ ?_
   rotate_left
   ·simp only [Act.put, sA, sZ, sS, i64_w, i32_w]
    rfl
   first
   |refine pure_ (i := 12) (N := some 23) (v := ?_) (a' := ?_) #[true, true, true, true, true, true, true, true, true, true, true, true, true, false, false, false] rfl rfl (any_of HT_.out (by kernel_rfl)) (fun _ _ _ h => h) (Or.inl ⟨by rfl, ?_⟩) ?_ ?_
    rotate_left
    ·intro w'
     go_simp
     with_reducible rfl
   |refine pure_ (i := 12) (N := some 23) (v := undef) (a' := ?_) #[true, true, true, true, true, true, true, true, true, true, true, true, true, false, false, false] rfl rfl (any_of HT_.out (by kernel_rfl)) (fun _ _ _ h => h) (Or.inr ⟨by rfl, rfl⟩) ?_ ?_
   rotate_left
   ·simp only [Act.put, sA, sZ, sS, i64_w, i32_w]
    rfl
   refine pure_ (i := 13) (N := some 24) (v := ?_) (a' := ?_) #[true, true, true, true, true, true, true, true, true, true, true, true, true, true, false, false] rfl rfl (any_of HT_.out (by kernel_rfl)) (fun _ _ _ h => h) (Or.inl ⟨by rfl, ?_⟩) ?_ ?_
   rotate_left
   ·intro w'
    go_simp
    with_reducible rfl
   rotate_left
   ·simp only [Act.put, sA, sZ, sS, i64_w, i32_w]
    rfl
   refine one_ (i := 14) (N := none) #[true, true, true, true, true, true, true, true, true, true, true, true, true, true, true, false] rfl rfl (one_of HT_.out (by kernel_rfl)) (by decide) (fun K hK => ?_)
   have hs14 : w13.cell? ⟨gb212, 0, none⟩ = some (.slice none 0 0) := (blk_cell BK212.out 0).trans rfl
   have hfs14 := blk_frozen BK212.out 0
   have hns14_1 := NB220_212.out
   have hms14_1 := NB212_220.out
   have hs15 : w13.cell? ⟨gb212, 1, none⟩ = some (.slice none 0 0) := (blk_cell BK212.out 1).trans rfl
   have hfs15 := blk_frozen BK212.out 1
   have hns15_1 := NB220_212.out
   have hms15_1 := NB212_220.out
   refine skip_ (w1 := ?_) (by rfl) rfl ?_ ?_
   rotate_left
   ·go_simp
    rfl
   refine hK.out _ _ ⟨((cell_far (p := ⟨gb212, _, none⟩) NB220_212.out _).trans (((cell_far (p := ⟨gb212, _, none⟩) NB220_212.out _).trans (hHeld.1)))), ((cell_far (p := ⟨gb212, _, none⟩) NB220_212.out _).trans (((cell_far (p := ⟨gb212, _, none⟩) NB220_212.out _).trans (hHeld.2))))⟩ (fun hHeld => ?_)
   clear hK K
   refine pure_ (i := 15) (N := some 3) (v := ?_) (a' := ?_) #[true, true, true, true, true, true, true, true, true, true, true, true, true, true, true, true] rfl rfl (any_of HT_.out (by kernel_rfl)) (fun _ _ _ h => h) (Or.inl ⟨by rfl, ?_⟩) ?_ ?_
   rotate_left
   ·intro w'
    go_simp
    with_reducible rfl
   rotate_left
   ·simp only [Act.put, sA, sZ, sS, i64_w, i32_w]
    rfl
   refine done_ (done_of HT_.out (by kernel_rfl)) ?_
   try go_wp2
   refine bodyPost_ret (results_ct rfl _ _ gb212 60 #[.slice Ao8 t213.length co8, .slice Ao11 t216.length co11] (0, 0) _ rfl (by refine blk_put (cs := #[.slice Ao8 t213.length co8, .slice none 0 0]) ?_ 1 _ rfl; refine blk_put (cs := #[.slice none 0 0, .slice none 0 0]) ?_ 0 _ rfl; exact BK212.out) Try.underlying60 rfl (by kernel_rfl)) rfl ?_
   exact ⟨_, _, by first | rfl | (simp [*, errW_none, errW_some] <;> rfl), by exact Kd.R_mono (Kd.R_far (p := ⟨gb212, 1, none⟩) (Kd.R_far (p := ⟨gb212, 0, none⟩) (Kd.R_types HO215.out BK212.out (by decide)) (fun _ hk => hk.2) (.slice Ao8 t213.length co8)) (fun _ hk => hk.2) (.slice Ao11 t216.length co11)) (fun _ hk => hk.1), by exact Kd.R_mono (Kd.R_far (p := ⟨gb212, 1, none⟩) (Kd.R_far (p := ⟨gb212, 0, none⟩) (Kd.R_types HO218.out BK212.out (by decide)) (fun _ hk => hk.2) (.slice Ao8 t213.length co8)) (fun _ hk => hk.2) (.slice Ao11 t216.length co11)) (fun _ hk => hk.1), by repeat (first | (with_reducible first | exact HB.out | refine bS ?_ GE212.out))⟩
 ·replace c3 := Bool.eq_false_iff.mpr c3
  subst c3
  replace H : (some (t213, t216, false)) = some (r1, r2, r3) := by rw [if_neg (show ¬ (false = true) by decide)] at H; exact H
  simp only [Option.some.injEq, Prod.mk.injEq] at H
  obtain ⟨rfl, rfl, rfl⟩ := H
  go_enter Try.func64, Try.ntmps64
  try go_wp2_with (first | ((with_reducible refine gate_dst (N := 2) rfl ?_); (try (refine gate_guard (by rfl) ?_; dsimp only)); refine box_event ?hg (N := 2) ?hd (cs := #[.slice none 0 0, .slice none 0 0]) (t := 60) ?hr ?_; (case hd => rfl); (case hg => rfl); (case hr => first | (go_simp; done)); intro gb212 hg w27 hbox hb; have BK212 := aM hbox; have GW212 := aM ((by rw [hg]; exact (below_size HB.out) : w.heap.size ≤ gb212)); have GE212 := aM ((by rw [hg]; exact (below_size HB.out) : w.heap.size ≤ gb212)); replace HB := aM (below_step HB.out hb); clear hb hbox hg) | ((with_reducible refine gate_callee (f := 88) rfl ?_); refine goesL_ (some 8) rfl rfl Try.func88 (by kernel_rfl) rfl #[.string a0] rfl (by (try simp only [List.map_toArray, List.map_cons, List.map_nil]); rfl) ?_; (with_reducible refine (impl_tidied.calls k a0 t213 t216 false _ A2.out).mono ?_); rintro e w28 ⟨v214, v217, rfl, ho0, ho1, hb⟩; refine ⟨_, rfl, ?_⟩; have HO215 := aM (Kd.R_lower ho0 (below_size HB.out)); have HO218 := aM (Kd.R_lower ho1 (below_size HB.out)); replace BK212 := aM (blk_below (g := gb212) (o := .cells #[.slice none 0 0, .slice none 0 0] 60 (0, 0)) BK212.out hb); replace HB := aM (below_step HB.out hb); (try clear hb); (try clear ho0); (try clear ho1)) | ((with_reducible refine gate_dst (N := 4) rfl ?_); (try (refine gate_guard (by rfl) ?_; dsimp only)); refine box_event ?hg (N := 4) ?hd (cs := #[.slice none 0 0, .slice none 0 0]) (t := 60) ?hr ?_; (case hd => rfl); (case hg => rfl); (case hr => first | (go_simp; done)); intro gb220 hg w29 hbox hb; replace HO215 := aM (Kd.R_below HO215.out hb); replace HO218 := aM (Kd.R_below HO218.out hb); have BK220 := aM hbox; have GW220 := aM ((by rw [hg]; exact (below_size HB.out) : w.heap.size ≤ gb220)); have GE220 := aM ((by rw [hg]; exact (below_size HB.out) : w.heap.size ≤ gb220)); replace HB := aM (below_step HB.out hb); have NB212_220 := aM ((by rw [hg]; exact Nat.ne_of_lt (blk_lt (g := gb212) (o := .cells #[.slice none 0 0, .slice none 0 0] 60 (0, 0)) BK212.out) : gb212 ≠ gb220)); have NB220_212 := aM ((by rw [hg]; exact Nat.ne_of_gt (blk_lt (g := gb212) (o := .cells #[.slice none 0 0, .slice none 0 0] 60 (0, 0)) BK212.out) : gb220 ≠ gb212)); replace BK212 := aM (blk_below (g := gb212) (o := .cells #[.slice none 0 0, .slice none 0 0] 60 (0, 0)) BK212.out hb); clear hb hbox hg; obtain ⟨Ao30, co30, eo30⟩ := Kd.R_slice HO215.out; subst eo30; have hnb31 := NB220_212.out; have hnc31 := NB212_220.out; have hcz32_0 : w29.cell? ⟨gb220, 0, none⟩ = some (.slice none 0 0) := (blk_cell BK220.out 0).trans rfl; have hcz32_1 : w29.cell? ⟨gb220, 1, none⟩ = some (.slice none 0 0) := (blk_cell BK220.out 1).trans rfl; have hfz32_0 := blk_frozen BK220.out 0; have hfz32_1 := blk_frozen BK220.out 1; obtain ⟨Ao33, co33, eo33⟩ := Kd.R_slice HO218.out; subst eo33))
  have n0_ : Aside0 (Kd.R Kd.bool 4 ((w29.setCell ⟨gb220, 0, none⟩ (.slice Ao30 t213.length co30)).setCell ⟨gb220, 1, none⟩ (.slice Ao33 t216.length co33)) w.heap.size (fun k_ => some k_ ≠ (.slice Ao33 t216.length co33 : Value).ownBlock) (.slice Ao30 t213.length co30) t213) := ⟨by exact Kd.R_mono (Kd.R_far (p := ⟨gb220, 1, none⟩) (Kd.R_far (p := ⟨gb220, 0, none⟩) (Kd.R_types HO215.out BK220.out (by decide)) (fun _ hk => hk.2) (.slice Ao30 t213.length co30)) (fun _ hk => hk.2) (.slice Ao33 t216.length co33)) (fun _ hk => hk.1)⟩
  have n1_ : Aside0 (Kd.R Kd.bool 4 ((w29.setCell ⟨gb220, 0, none⟩ (.slice Ao30 t213.length co30)).setCell ⟨gb220, 1, none⟩ (.slice Ao33 t216.length co33)) w.heap.size (fun k_ => some k_ ≠ (.slice Ao30 t213.length co30 : Value).ownBlock) (.slice Ao33 t216.length co33) t216) := ⟨by exact Kd.R_mono (Kd.R_far (p := ⟨gb220, 1, none⟩) (Kd.R_far (p := ⟨gb220, 0, none⟩) (Kd.R_types HO218.out BK220.out (by decide)) (fun _ hk => hk.2) (.slice Ao30 t213.length co30)) (fun _ hk => hk.2) (.slice Ao33 t216.length co33)) (fun _ hk => hk.1)⟩
  have n2_ : Aside0 (((w29.setCell ⟨gb220, 0, none⟩ (.slice Ao30 t213.length co30)).setCell ⟨gb220, 1, none⟩ (.slice Ao33 t216.length co33)).heap[gb212]? = some (.cells #[.slice none 0 0, .slice none 0 0] 60 (0, 0))) := ⟨by refine blk_far ?_ NB212_220.out _; refine blk_far ?_ NB212_220.out _; exact BK212.out⟩
  have n3_ : Aside0 (((w29.setCell ⟨gb220, 0, none⟩ (.slice Ao30 t213.length co30)).setCell ⟨gb220, 1, none⟩ (.slice Ao33 t216.length co33)).heap[gb220]? = some (.cells #[.slice Ao30 t213.length co30, .slice Ao33 t216.length co33] 60 (0, 0))) := ⟨by refine blk_put (cs := #[.slice Ao30 t213.length co30, .slice none 0 0]) ?_ 1 _ rfl; refine blk_put (cs := #[.slice none 0 0, .slice none 0 0]) ?_ 0 _ rfl; exact BK220.out⟩
  have n4_ : Aside0 (Below w.heap.size w ((w29.setCell ⟨gb220, 0, none⟩ (.slice Ao30 t213.length co30)).setCell ⟨gb220, 1, none⟩ (.slice Ao33 t216.length co33))) := ⟨by repeat (first | (with_reducible first | exact HB.out | refine bS ?_ GE220.out))⟩
  (try clear HO215)
  (try clear HO218)
  (try clear BK212)
  (try clear BK220)
  (try clear HB)
  generalize ((w29.setCell ⟨gb220, 0, none⟩ (.slice Ao30 t213.length co30)).setCell ⟨gb220, 1, none⟩ (.slice Ao33 t216.length co33)) = w34 at n0_ n1_ n2_ n3_ n4_ ⊢
  have HO215 := n0_
  have HO218 := n1_
  have BK212 := n2_
  have BK220 := n3_
  have HB := n4_
  clear n0_ n1_ n2_ n3_ n4_
  replace HO215 := aM (rD HO215.out)
  replace HO218 := aM (rD HO218.out)
  replace BK212 := aM (kD BK212.out)
  replace BK220 := aM (kD BK220.out)
  replace HB := aM (b1 HB.out)
  refine start_ (n := 16) (S := fun w' => w'.cell? ⟨gb220, 0, none⟩ = some (.slice Ao30 t213.length co30) ∧ w'.cell? ⟨gb220, 1, none⟩ = some (.slice Ao33 t216.length co33)) (ds := []) #[false, false, false, false, false, false, false, false, false, false, false, false, false, false, false, false] (by kernel_rfl) rfl rfl ⟨(blk_cell BK220.out 0).trans rfl, (blk_cell BK220.out 1).trans rfl⟩ (fun hHeld => ?_); refine with_tabW impl_small.tab2 impl_small.bits2 (fun HT_ HW_ => ?_)
  generalize w34.drew = w35 at HO215 HO218 BK212 BK220 HB hHeld ⊢
  refine pure_ (i := 1) (N := some 12) (v := ?_) (a' := ?_) #[false, true, false, false, false, false, false, false, false, false, false, false, false, false, false, false] rfl rfl (any_of HT_.out (by kernel_rfl)) (fun _ _ _ h => h) (Or.inl ⟨by rfl, ?_⟩) ?_ ?_
  rotate_left
  ·intro w'
   go_simp
   with_reducible rfl
  rotate_left
  ·simp only [Act.put, sA, sZ, sS, i64_w, i32_w]
   rfl
  refine pure_ (i := 2) (N := some 13) (v := ?_) (a' := ?_) #[false, true, true, false, false, false, false, false, false, false, false, false, false, false, false, false] rfl rfl (any_of HT_.out (by kernel_rfl)) (fun _ _ _ h => h) (Or.inl ⟨by rfl, ?_⟩) ?_ ?_
  rotate_left
  ·intro w'
   go_simp
   with_reducible rfl
  rotate_left
  ·simp only [Act.put, sA, sZ, sS, i64_w, i32_w]
   rfl
  refine pure_ (i := 3) (N := some 14) (v := undef) (a' := ?_) #[false, true, true, true, false, false, false, false, false, false, false, false, false, false, false, false] rfl rfl (any_of HT_.out (by kernel_rfl)) (fun _ _ _ h => h) (Or.inr ⟨by rfl, rfl⟩) ?_ ?_
  rotate_left
  ·simp only [Act.put, sA, sZ, sS, i64_w, i32_w]
   rfl
  refine pure_ (i := 4) (N := some 15) (v := undef) (a' := ?_) #[false, true, true, true, true, false, false, false, false, false, false, false, false, false, false, false] rfl rfl (any_of HT_.out (by kernel_rfl)) (fun _ _ _ h => h) (Or.inr ⟨by rfl, rfl⟩) ?_ ?_
  rotate_left
  ·simp only [Act.put, sA, sZ, sS, i64_w, i32_w]
   rfl
  refine pure_ (i := 5) (N := some 16) (v := undef) (a' := ?_) #[false, true, true, true, true, true, false, false, false, false, false, false, false, false, false, false] rfl rfl (any_of HT_.out (by kernel_rfl)) (fun _ _ _ h => h) (Or.inr ⟨by rfl, rfl⟩) ?_ ?_
  rotate_left
  ·simp only [Act.put, sA, sZ, sS, i64_w, i32_w]
   rfl
  refine pure_ (i := 6) (N := some 17) (v := undef) (a' := ?_) #[false, true, true, true, true, true, true, false, false, false, false, false, false, false, false, false] rfl rfl (any_of HT_.out (by kernel_rfl)) (fun _ _ _ h => h) (Or.inr ⟨by rfl, rfl⟩) ?_ ?_
  rotate_left
  ·simp only [Act.put, sA, sZ, sS, i64_w, i32_w]
   rfl
  refine pure_ (i := 7) (N := some 18) (v := ?_) (a' := ?_) #[false, true, true, true, true, true, true, true, false, false, false, false, false, false, false, false] rfl rfl (any_of HT_.out (by kernel_rfl)) (fun _ _ _ h => h) (Or.inl ⟨by rfl, ?_⟩) ?_ ?_
  rotate_left
  ·intro w'
   go_simp
   with_reducible rfl
  rotate_left
  ·simp only [Act.put, sA, sZ, sS, i64_w, i32_w]
   rfl
  refine pure_ (i := 8) (N := some 19) (v := ?_) (a' := ?_) #[false, true, true, true, true, true, true, true, true, false, false, false, false, false, false, false] rfl rfl (any_of HT_.out (by kernel_rfl)) (fun _ _ _ h => h) (Or.inl ⟨by rfl, ?_⟩) ?_ ?_
  rotate_left
  ·intro w'
   go_simp
   with_reducible rfl
  rotate_left
  ·simp only [Act.put, sA, sZ, sS, i64_w, i32_w]
   rfl
  refine pure_ (i := 9) (N := some 20) (v := undef) (a' := ?_) #[false, true, true, true, true, true, true, true, true, true, false, false, false, false, false, false] rfl rfl (any_of HT_.out (by kernel_rfl)) (fun _ _ _ h => h) (Or.inr ⟨by rfl, rfl⟩) ?_ ?_
  rotate_left
  ·simp only [Act.put, sA, sZ, sS, i64_w, i32_w]
   rfl
  refine pure_ (i := 10) (N := some 21) (v := undef) (a' := ?_) #[false, true, true, true, true, true, true, true, true, true, true, false, false, false, false, false] rfl rfl (any_of HT_.out (by kernel_rfl)) (fun _ _ _ h => h) (Or.inr ⟨by rfl, rfl⟩) ?_ ?_
  rotate_left
  ·simp only [Act.put, sA, sZ, sS, i64_w, i32_w]
   rfl
  refine pure_ (i := 11) (N := some 22) (v := undef) (a' := ?_) #[false, true, true, true, true, true, true, true, true, true, true, true, false, false, false, false] rfl rfl (any_of HT_.out (by kernel_rfl)) (fun _ _ _ h => h) (Or.inr ⟨by rfl, rfl⟩) ?_ ?_
  rotate_left
  ·simp only [Act.put, sA, sZ, sS, i64_w, i32_w]
   rfl
  refine pure_ (i := 12) (N := some 23) (v := undef) (a' := ?_) #[false, true, true, true, true, true, true, true, true, true, true, true, true, false, false, false] rfl rfl (any_of HT_.out (by kernel_rfl)) (fun _ _ _ h => h) (Or.inr ⟨by rfl, rfl⟩) ?_ ?_
  rotate_left
  ·simp only [Act.put, sA, sZ, sS, i64_w, i32_w]
   rfl
  refine pure_ (i := 13) (N := some 24) (v := ?_) (a' := ?_) #[false, true, true, true, true, true, true, true, true, true, true, true, true, true, false, false] rfl rfl (any_of HT_.out (by kernel_rfl)) (fun _ _ _ h => h) (Or.inl ⟨by rfl, ?_⟩) ?_ ?_
  rotate_left
  ·intro w'
   go_simp
   with_reducible rfl
  rotate_left
  ·simp only [Act.put, sA, sZ, sS, i64_w, i32_w]
   rfl
  refine take_ (i := 0) (N := some 11) (v := ?_) (a' := ?_) #[true, true, true, true, true, true, true, true, true, true, true, true, true, true, false, false] rfl rfl (take_ofW HT_.out HW_.out (by kernel_rfl)) (fun _ _ _ h => h) (Or.inl ⟨by rfl, ?_⟩) hHeld ?_ ?_
  rotate_left
  ·rintro w' ⟨s0, s1⟩
   go_simp
   with_reducible rfl
  rotate_left
  ·simp only [Act.put, sA, sZ, sS, i64_w, i32_w]
   rfl
  refine one_ (i := 14) (N := none) #[true, true, true, true, true, true, true, true, true, true, true, true, true, true, true, false] rfl rfl (one_of HT_.out (by kernel_rfl)) (by decide) (fun K hK => ?_)
  have hs36 : w35.cell? ⟨gb212, 0, none⟩ = some (.slice none 0 0) := (blk_cell BK212.out 0).trans rfl
  have hfs36 := blk_frozen BK212.out 0
  have hns36_1 := NB220_212.out
  have hms36_1 := NB212_220.out
  have hs37 : w35.cell? ⟨gb212, 1, none⟩ = some (.slice none 0 0) := (blk_cell BK212.out 1).trans rfl
  have hfs37 := blk_frozen BK212.out 1
  have hns37_1 := NB220_212.out
  have hms37_1 := NB212_220.out
  refine skip_ (w1 := ?_) (by rfl) rfl ?_ ?_
  rotate_left
  ·go_simp
   rfl
  refine hK.out _ _ ⟨((cell_far (p := ⟨gb212, _, none⟩) NB220_212.out _).trans (((cell_far (p := ⟨gb212, _, none⟩) NB220_212.out _).trans (hHeld.1)))), ((cell_far (p := ⟨gb212, _, none⟩) NB220_212.out _).trans (((cell_far (p := ⟨gb212, _, none⟩) NB220_212.out _).trans (hHeld.2))))⟩ (fun hHeld => ?_)
  clear hK K
  refine pure_ (i := 15) (N := some 3) (v := ?_) (a' := ?_) #[true, true, true, true, true, true, true, true, true, true, true, true, true, true, true, true] rfl rfl (any_of HT_.out (by kernel_rfl)) (fun _ _ _ h => h) (Or.inl ⟨by rfl, ?_⟩) ?_ ?_
  rotate_left
  ·intro w'
   go_simp
   with_reducible rfl
  rotate_left
  ·simp only [Act.put, sA, sZ, sS, i64_w, i32_w]
   rfl
  refine done_ (done_of HT_.out (by kernel_rfl)) ?_
  try go_wp2
  refine bodyPost_ret (results_ct rfl _ _ gb212 60 #[.slice Ao30 t213.length co30, .slice Ao33 t216.length co33] (0, 0) _ rfl (by refine blk_put (cs := #[.slice Ao30 t213.length co30, .slice none 0 0]) ?_ 1 _ rfl; refine blk_put (cs := #[.slice none 0 0, .slice none 0 0]) ?_ 0 _ rfl; exact BK212.out) Try.underlying60 rfl (by kernel_rfl)) rfl ?_
  exact ⟨_, _, by first | rfl | (simp [*, errW_none, errW_some] <;> rfl), by exact Kd.R_mono (Kd.R_far (p := ⟨gb212, 1, none⟩) (Kd.R_far (p := ⟨gb212, 0, none⟩) (Kd.R_types HO215.out BK212.out (by decide)) (fun _ hk => hk.2) (.slice Ao30 t213.length co30)) (fun _ hk => hk.2) (.slice Ao33 t216.length co33)) (fun _ hk => hk.1), by exact Kd.R_mono (Kd.R_far (p := ⟨gb212, 1, none⟩) (Kd.R_far (p := ⟨gb212, 0, none⟩) (Kd.R_types HO218.out BK212.out (by decide)) (fun _ hk => hk.2) (.slice Ao30 t213.length co30)) (fun _ hk => hk.2) (.slice Ao33 t216.length co33)) (fun _ hk => hk.1), by repeat (first | (with_reducible first | exact HB.out | refine bS ?_ GE212.out))⟩


def impl_two.f (k : Nat) (a0 : ByteArray) (a1 : ByteArray) : Option (List Bool × List Bool × List Bool × List Bool × Bool) := (impl_small.f k a0).bind fun bt223 => ((impl_small.f k a1).bind fun bt231 => (if bt223.2.2 = true then (some (bt223.1, bt223.2.1, bt231.1, bt231.2.1, bt231.2.2)) else (some (bt223.1, bt223.2.1, bt231.1, bt231.2.1, false))))
theorem impl_two.mono : ∀ a0 a1 k, LeO (impl_two.f k a0 a1) (impl_two.f (k + 1) a0 a1) := by
 intro a0 a1 k
 unfold impl_two.f
 repeat' first | (with_reducible exact impl_small.mono _ _) | (with_reducible exact LeO.refl _) | (with_reducible refine LeO.bind ?_ (fun _ => ?_))
def impl_two.T3 : Bool × List (List Nat × List Nat) := (true, [([], []), ([], []), ([], []), ([2], [2]), ([3], [3]), ([3, 4], [3, 4]), ([0, 3, 0], [0]), ([1, 6, 0, 1, 6], [1]), ([5, 7, 0, 1, 2, 3, 4, 5, 6, 7], [5])])
def impl_two.B3 : List Nat := [0, 0, 0, 4, 12, 28, 13, 79, 255]
theorem impl_two.tab3 : rtab .any (opsOf Try.f54 3) = impl_two.T3 := by kernel_rfl
theorem impl_two.bits3 : waitsOk impl_two.T3.2 impl_two.B3 = true := by kernel_rfl
set_option maxHeartbeats 8000000 in
set_option maxRecDepth 100000 in
theorem impl_two.calls (k : Nat) (a0 : ByteArray) (a1 : ByteArray) (r1 : List Bool) (r2 : List Bool) (r3 : List Bool) (r4 : List Bool) (r5 : Bool) (w : World) (h : impl_two.f k a0 a1 = some (r1, r2, r3, r4, r5)) :
  Calls Try.prog 54 #[.string a0, .string a1] w fun e w' => ∃ v0_ v1_ v2_ v3_ : Value, e = .returned (.tuple #[.agg #[v0_, v1_], .agg #[v2_, v3_], .bool r5]) ∧ Kd.R Kd.bool 4 w' w.heap.size (fun k_ => some k_ ≠ (v1_ : Value).ownBlock ∧ some k_ ≠ (v2_ : Value).ownBlock ∧ some k_ ≠ (v3_ : Value).ownBlock) v0_ r1 ∧ Kd.R Kd.bool 4 w' w.heap.size (fun k_ => some k_ ≠ (v0_ : Value).ownBlock ∧ some k_ ≠ (v2_ : Value).ownBlock ∧ some k_ ≠ (v3_ : Value).ownBlock) v1_ r2 ∧ Kd.R Kd.bool 4 w' w.heap.size (fun k_ => some k_ ≠ (v0_ : Value).ownBlock ∧ some k_ ≠ (v1_ : Value).ownBlock ∧ some k_ ≠ (v3_ : Value).ownBlock) v2_ r3 ∧ Kd.R Kd.bool 4 w' w.heap.size (fun k_ => some k_ ≠ (v0_ : Value).ownBlock ∧ some k_ ≠ (v1_ : Value).ownBlock ∧ some k_ ≠ (v2_ : Value).ownBlock) v3_ r4 ∧ Below w.heap.size w w' := by
 have hu60 := Try.underlying60
 have HB := aM (Below.refl w.heap.size w)
 have H : ((impl_small.f k a0).bind fun bt223 => ((impl_small.f k a1).bind fun bt231 => (if bt223.2.2 = true then (some (bt223.1, bt223.2.1, bt231.1, bt231.2.1, bt231.2.2)) else (some (bt223.1, bt223.2.1, bt231.1, bt231.2.1, false))))) = some (r1, r2, r3, r4, r5) := h
 clear h
 replace H := Option.bind_eq_some_iff.mp H
 obtain ⟨⟨t223, t226, t229⟩, A30, H⟩ := H
 replace H : ((impl_small.f k a1).bind fun bt231 => (if t229 = true then (some (t223, t226, bt231.1, bt231.2.1, bt231.2.2)) else (some (t223, t226, bt231.1, bt231.2.1, false)))) = some (r1, r2, r3, r4, r5) := H
 have A3 := aM A30
 clear A30
 replace H := Option.bind_eq_some_iff.mp H
 obtain ⟨⟨t231, t234, t237⟩, A40, H⟩ := H
 replace H : (if t229 = true then (some (t223, t226, t231, t234, t237)) else (some (t223, t226, t231, t234, false))) = some (r1, r2, r3, r4, r5) := H
 have A4 := aM A40
 clear A40
 by_cases c5 : t229 = true
 all_goals
  first
  |replace c5 := Bool.eq_false_iff.mpr c5
  |skip
  subst c5
  first
  |have H1 : (some (t223, t226, t231, t234, t237)) = some (r1, r2, r3, r4, r5) := by rw [if_pos rfl] at H; exact H
  |have H1 : (some (t223, t226, t231, t234, false)) = some (r1, r2, r3, r4, r5) := by rw [if_neg (show ¬ (false = true) by decide)] at H; exact H
  clear H
  have H := H1
  clear H1
  simp only [Option.some.injEq, Prod.mk.injEq] at H
  obtain ⟨rfl, rfl, rfl, rfl, rfl⟩ := H
  go_enter Try.func54, Try.ntmps54
  try go_wp2_with (first | ((with_reducible refine gate_dst (N := 4) rfl ?_); refine box_event ?hg (N := 4) ?hd (cs := #[.slice none 0 0, .slice none 0 0]) (t := 60) ?hr ?_; (case hd => rfl); (case hg => rfl); (case hr => first | (go_simp; done)); intro gb221 hg w6 hbox hb; have BK221 := aM hbox; have GW221 := aM ((by rw [hg]; exact (below_size HB.out) : w.heap.size ≤ gb221)); have GE221 := aM ((by rw [hg]; exact (below_size HB.out) : w.heap.size ≤ gb221)); replace HB := aM (below_step HB.out hb); clear hb hbox hg) | ((with_reducible refine gate_dst (N := 5) rfl ?_); refine box_event ?hg (N := 5) ?hd (cs := #[.slice none 0 0, .slice none 0 0]) (t := 60) ?hr ?_; (case hd => rfl); (case hg => rfl); (case hr => first | (go_simp; done)); intro gb222 hg w7 hbox hb; have BK222 := aM hbox; have GW222 := aM ((by rw [hg]; exact (below_size HB.out) : w.heap.size ≤ gb222)); have GE222 := aM ((by rw [hg]; exact (below_size HB.out) : w.heap.size ≤ gb222)); replace HB := aM (below_step HB.out hb); have NB221_222 := aM ((by rw [hg]; exact Nat.ne_of_lt (blk_lt (g := gb221) (o := .cells #[.slice none 0 0, .slice none 0 0] 60 (0, 0)) BK221.out) : gb221 ≠ gb222)); have NB222_221 := aM ((by rw [hg]; exact Nat.ne_of_gt (blk_lt (g := gb221) (o := .cells #[.slice none 0 0, .slice none 0 0] 60 (0, 0)) BK221.out) : gb222 ≠ gb221)); replace BK221 := aM (blk_below (g := gb221) (o := .cells #[.slice none 0 0, .slice none 0 0] 60 (0, 0)) BK221.out hb); clear hb hbox hg) | ((with_reducible refine gate_callee (f := 64) rfl ?_); refine goesL_ (some 13) rfl rfl Try.func64 (by kernel_rfl) rfl #[.string a0] rfl (by (try simp only [List.map_toArray, List.map_cons, List.map_nil]); rfl) ?_; (with_reducible refine (impl_small.calls k a0 t223 t226 _ _ A3.out).mono ?_); rintro e w8 ⟨v224, v227, rfl, ho0, ho1, hb⟩; refine ⟨_, rfl, ?_⟩; have HO225 := aM (Kd.R_lower ho0 (below_size HB.out)); have HO228 := aM (Kd.R_lower ho1 (below_size HB.out)); replace BK221 := aM (blk_below (g := gb221) (o := .cells #[.slice none 0 0, .slice none 0 0] 60 (0, 0)) BK221.out hb); replace BK222 := aM (blk_below (g := gb222) (o := .cells #[.slice none 0 0, .slice none 0 0] 60 (0, 0)) BK222.out hb); replace HB := aM (below_step HB.out hb); (try clear hb); (try clear ho0); (try clear ho1)) | ((with_reducible refine gate_dst (N := 7) rfl ?_); refine box_event ?hg (N := 7) ?hd (cs := #[.slice none 0 0, .slice none 0 0]) (t := 60) ?hr ?_; (case hd => rfl); (case hg => rfl); (case hr => first | (go_simp; done)); intro gb230 hg w9 hbox hb; replace HO225 := aM (Kd.R_below HO225.out hb); replace HO228 := aM (Kd.R_below HO228.out hb); have BK230 := aM hbox; have GW230 := aM ((by rw [hg]; exact (below_size HB.out) : w.heap.size ≤ gb230)); have GE230 := aM ((by rw [hg]; exact (below_size HB.out) : w.heap.size ≤ gb230)); replace HB := aM (below_step HB.out hb); have NB221_230 := aM ((by rw [hg]; exact Nat.ne_of_lt (blk_lt (g := gb221) (o := .cells #[.slice none 0 0, .slice none 0 0] 60 (0, 0)) BK221.out) : gb221 ≠ gb230)); have NB230_221 := aM ((by rw [hg]; exact Nat.ne_of_gt (blk_lt (g := gb221) (o := .cells #[.slice none 0 0, .slice none 0 0] 60 (0, 0)) BK221.out) : gb230 ≠ gb221)); replace BK221 := aM (blk_below (g := gb221) (o := .cells #[.slice none 0 0, .slice none 0 0] 60 (0, 0)) BK221.out hb); have NB222_230 := aM ((by rw [hg]; exact Nat.ne_of_lt (blk_lt (g := gb222) (o := .cells #[.slice none 0 0, .slice none 0 0] 60 (0, 0)) BK222.out) : gb222 ≠ gb230)); have NB230_222 := aM ((by rw [hg]; exact Nat.ne_of_gt (blk_lt (g := gb222) (o := .cells #[.slice none 0 0, .slice none 0 0] 60 (0, 0)) BK222.out) : gb230 ≠ gb222)); replace BK222 := aM (blk_below (g := gb222) (o := .cells #[.slice none 0 0, .slice none 0 0] 60 (0, 0)) BK222.out hb); clear hb hbox hg; obtain ⟨Ao10, co10, eo10⟩ := Kd.R_slice HO225.out; subst eo10; have hnb11 := NB230_221.out; have hnc11 := NB221_230.out; have hnb12 := NB230_222.out; have hnc12 := NB222_230.out; have hcz13_0 : w9.cell? ⟨gb230, 0, none⟩ = some (.slice none 0 0) := (blk_cell BK230.out 0).trans rfl; have hcz13_1 : w9.cell? ⟨gb230, 1, none⟩ = some (.slice none 0 0) := (blk_cell BK230.out 1).trans rfl; have hfz13_0 := blk_frozen BK230.out 0; have hfz13_1 := blk_frozen BK230.out 1; obtain ⟨Ao14, co14, eo14⟩ := Kd.R_slice HO228.out; subst eo14) | ((with_reducible refine gate_callee (f := 64) rfl ?_); refine goesL_ (some 18) rfl rfl Try.func64 (by kernel_rfl) rfl #[.string a1] rfl (by (try simp only [List.map_toArray, List.map_cons, List.map_nil]); rfl) ?_; (with_reducible refine (impl_small.calls k a1 t231 t234 t237 _ A4.out).mono ?_); rintro e w15 ⟨v232, v235, rfl, ho0, ho1, hb⟩; refine ⟨_, rfl, ?_⟩; have HO233 := aM (Kd.R_lower (Kd.R_new' (Kd.R_new' ho0 (Kd.R_lt (by exact (Kd.R_mono (Kd.R_far (p := ⟨gb230, 1, none⟩) (Kd.R_far (p := ⟨gb230, 0, none⟩) (Kd.R_types HO225.out BK230.out (by decide)) (fun _ hk => hk.2) (.slice Ao10 t223.length co10)) (fun _ hk => hk.2) (.slice Ao14 t226.length co14)) (fun _ h_ => h_.1))))) (Kd.R_lt (by exact (Kd.R_mono (Kd.R_far (p := ⟨gb230, 1, none⟩) (Kd.R_far (p := ⟨gb230, 0, none⟩) (Kd.R_types HO228.out BK230.out (by decide)) (fun _ hk => hk.2) (.slice Ao10 t223.length co10)) (fun _ hk => hk.2) (.slice Ao14 t226.length co14)) (fun _ h_ => h_.1))))) (below_size (by repeat (first | (with_reducible first | exact HB.out | refine bS ?_ GE230.out))))); have HO236 := aM (Kd.R_lower (Kd.R_new' (Kd.R_new' ho1 (Kd.R_lt (by exact (Kd.R_mono (Kd.R_far (p := ⟨gb230, 1, none⟩) (Kd.R_far (p := ⟨gb230, 0, none⟩) (Kd.R_types HO225.out BK230.out (by decide)) (fun _ hk => hk.2) (.slice Ao10 t223.length co10)) (fun _ hk => hk.2) (.slice Ao14 t226.length co14)) (fun _ h_ => h_.1))))) (Kd.R_lt (by exact (Kd.R_mono (Kd.R_far (p := ⟨gb230, 1, none⟩) (Kd.R_far (p := ⟨gb230, 0, none⟩) (Kd.R_types HO228.out BK230.out (by decide)) (fun _ hk => hk.2) (.slice Ao10 t223.length co10)) (fun _ hk => hk.2) (.slice Ao14 t226.length co14)) (fun _ h_ => h_.1))))) (below_size (by repeat (first | (with_reducible first | exact HB.out | refine bS ?_ GE230.out))))); replace HO225 := aM (Kd.R_mono (Kd.R_told (Kd.R_told (Kd.R_old (by exact (Kd.R_mono (Kd.R_far (p := ⟨gb230, 1, none⟩) (Kd.R_far (p := ⟨gb230, 0, none⟩) (Kd.R_types HO225.out BK230.out (by decide)) (fun _ hk => hk.2) (.slice Ao10 t223.length co10)) (fun _ hk => hk.2) (.slice Ao14 t226.length co14)) (fun _ h_ => h_.1))) hb) (Kd.R_base ho0)) (Kd.R_base ho1)) (fun _ h_ => h_.1)); replace HO228 := aM (Kd.R_mono (Kd.R_told (Kd.R_told (Kd.R_old (by exact (Kd.R_mono (Kd.R_far (p := ⟨gb230, 1, none⟩) (Kd.R_far (p := ⟨gb230, 0, none⟩) (Kd.R_types HO228.out BK230.out (by decide)) (fun _ hk => hk.2) (.slice Ao10 t223.length co10)) (fun _ hk => hk.2) (.slice Ao14 t226.length co14)) (fun _ h_ => h_.1))) hb) (Kd.R_base ho0)) (Kd.R_base ho1)) (fun _ h_ => h_.1)); replace BK221 := aM (blk_below (g := gb221) (o := .cells #[.slice none 0 0, .slice none 0 0] 60 (0, 0)) (by refine blk_far ?_ NB221_230.out _; refine blk_far ?_ NB221_230.out _; exact BK221.out) hb); replace BK222 := aM (blk_below (g := gb222) (o := .cells #[.slice none 0 0, .slice none 0 0] 60 (0, 0)) (by refine blk_far ?_ NB222_230.out _; refine blk_far ?_ NB222_230.out _; exact BK222.out) hb); replace BK230 := aM (blk_below (g := gb230) (o := .cells #[.slice Ao10 t223.length co10, .slice Ao14 t226.length co14] 60 (0, 0)) (by refine blk_put (cs := #[.slice Ao10 t223.length co10, .slice none 0 0]) ?_ 1 _ rfl; refine blk_put (cs := #[.slice none 0 0, .slice none 0 0]) ?_ 0 _ rfl; exact BK230.out) hb); replace HB := aM (below_step (by repeat (first | (with_reducible first | exact HB.out | refine bS ?_ GE230.out))) hb); (try clear hb); (try clear ho0); (try clear ho1)) | ((with_reducible refine gate_dst (N := 9) rfl ?_); refine box_event ?hg (N := 9) ?hd (cs := #[.slice none 0 0, .slice none 0 0]) (t := 60) ?hr ?_; (case hd => rfl); (case hg => rfl); (case hr => first | (go_simp; done)); intro gb238 hg w16 hbox hb; replace HO225 := aM (Kd.R_below HO225.out hb); replace HO228 := aM (Kd.R_below HO228.out hb); replace HO233 := aM (Kd.R_below HO233.out hb); replace HO236 := aM (Kd.R_below HO236.out hb); have BK238 := aM hbox; have GW238 := aM ((by rw [hg]; exact (below_size HB.out) : w.heap.size ≤ gb238)); have GE238 := aM ((by rw [hg]; exact (below_size HB.out) : w.heap.size ≤ gb238)); replace HB := aM (below_step HB.out hb); have NB221_238 := aM ((by rw [hg]; exact Nat.ne_of_lt (blk_lt (g := gb221) (o := .cells #[.slice none 0 0, .slice none 0 0] 60 (0, 0)) BK221.out) : gb221 ≠ gb238)); have NB238_221 := aM ((by rw [hg]; exact Nat.ne_of_gt (blk_lt (g := gb221) (o := .cells #[.slice none 0 0, .slice none 0 0] 60 (0, 0)) BK221.out) : gb238 ≠ gb221)); replace BK221 := aM (blk_below (g := gb221) (o := .cells #[.slice none 0 0, .slice none 0 0] 60 (0, 0)) BK221.out hb); have NB222_238 := aM ((by rw [hg]; exact Nat.ne_of_lt (blk_lt (g := gb222) (o := .cells #[.slice none 0 0, .slice none 0 0] 60 (0, 0)) BK222.out) : gb222 ≠ gb238)); have NB238_222 := aM ((by rw [hg]; exact Nat.ne_of_gt (blk_lt (g := gb222) (o := .cells #[.slice none 0 0, .slice none 0 0] 60 (0, 0)) BK222.out) : gb238 ≠ gb222)); replace BK222 := aM (blk_below (g := gb222) (o := .cells #[.slice none 0 0, .slice none 0 0] 60 (0, 0)) BK222.out hb); have NB230_238 := aM ((by rw [hg]; exact Nat.ne_of_lt (blk_lt (g := gb230) (o := .cells #[.slice Ao10 t223.length co10, .slice Ao14 t226.length co14] 60 (0, 0)) BK230.out) : gb230 ≠ gb238)); have NB238_230 := aM ((by rw [hg]; exact Nat.ne_of_gt (blk_lt (g := gb230) (o := .cells #[.slice Ao10 t223.length co10, .slice Ao14 t226.length co14] 60 (0, 0)) BK230.out) : gb238 ≠ gb230)); replace BK230 := aM (blk_below (g := gb230) (o := .cells #[.slice Ao10 t223.length co10, .slice Ao14 t226.length co14] 60 (0, 0)) BK230.out hb); clear hb hbox hg; obtain ⟨Ao17, co17, eo17⟩ := Kd.R_slice HO233.out; subst eo17; have hnb18 := NB238_221.out; have hnc18 := NB221_238.out; have hnb19 := NB238_222.out; have hnc19 := NB222_238.out; have hnb20 := NB238_230.out; have hnc20 := NB230_238.out; have hcz21_0 : w16.cell? ⟨gb238, 0, none⟩ = some (.slice none 0 0) := (blk_cell BK238.out 0).trans rfl; have hcz21_1 : w16.cell? ⟨gb238, 1, none⟩ = some (.slice none 0 0) := (blk_cell BK238.out 1).trans rfl; have hfz21_0 := blk_frozen BK238.out 0; have hfz21_1 := blk_frozen BK238.out 1; obtain ⟨Ao22, co22, eo22⟩ := Kd.R_slice HO236.out; subst eo22))
  have n0_ : Aside0 (Kd.R Kd.bool 4 ((w16.setCell ⟨gb238, 0, none⟩ (.slice Ao17 t231.length co17)).setCell ⟨gb238, 1, none⟩ (.slice Ao22 t234.length co22)) w.heap.size (fun k_ => some k_ ≠ (.slice Ao14 t226.length co14 : Value).ownBlock ∧ some k_ ≠ (.slice Ao17 t231.length co17 : Value).ownBlock ∧ some k_ ≠ (.slice Ao22 t234.length co22 : Value).ownBlock) (.slice Ao10 t223.length co10) t223) := ⟨by exact Kd.R_mono (Kd.R_far (p := ⟨gb238, 1, none⟩) (Kd.R_far (p := ⟨gb238, 0, none⟩) (Kd.R_types HO225.out BK238.out (by decide)) (fun _ hk => hk.2) (.slice Ao17 t231.length co17)) (fun _ hk => hk.2) (.slice Ao22 t234.length co22)) (fun _ hk => ⟨hk.1.1.1, ⟨hk.1.1.2, hk.1.2⟩⟩)⟩
  have n1_ : Aside0 (Kd.R Kd.bool 4 ((w16.setCell ⟨gb238, 0, none⟩ (.slice Ao17 t231.length co17)).setCell ⟨gb238, 1, none⟩ (.slice Ao22 t234.length co22)) w.heap.size (fun k_ => some k_ ≠ (.slice Ao10 t223.length co10 : Value).ownBlock ∧ some k_ ≠ (.slice Ao17 t231.length co17 : Value).ownBlock ∧ some k_ ≠ (.slice Ao22 t234.length co22 : Value).ownBlock) (.slice Ao14 t226.length co14) t226) := ⟨by exact Kd.R_mono (Kd.R_far (p := ⟨gb238, 1, none⟩) (Kd.R_far (p := ⟨gb238, 0, none⟩) (Kd.R_types HO228.out BK238.out (by decide)) (fun _ hk => hk.2) (.slice Ao17 t231.length co17)) (fun _ hk => hk.2) (.slice Ao22 t234.length co22)) (fun _ hk => ⟨hk.1.1.1, ⟨hk.1.1.2, hk.1.2⟩⟩)⟩
  have n2_ : Aside0 (Kd.R Kd.bool 4 ((w16.setCell ⟨gb238, 0, none⟩ (.slice Ao17 t231.length co17)).setCell ⟨gb238, 1, none⟩ (.slice Ao22 t234.length co22)) w.heap.size (fun k_ => some k_ ≠ (.slice Ao10 t223.length co10 : Value).ownBlock ∧ some k_ ≠ (.slice Ao14 t226.length co14 : Value).ownBlock ∧ some k_ ≠ (.slice Ao22 t234.length co22 : Value).ownBlock) (.slice Ao17 t231.length co17) t231) := ⟨by exact Kd.R_mono (Kd.R_far (p := ⟨gb238, 1, none⟩) (Kd.R_far (p := ⟨gb238, 0, none⟩) (Kd.R_types HO233.out BK238.out (by decide)) (fun _ hk => hk.2) (.slice Ao17 t231.length co17)) (fun _ hk => hk.2) (.slice Ao22 t234.length co22)) (fun _ hk => ⟨hk.1.1.2, ⟨hk.1.2, hk.1.1.1⟩⟩)⟩
  have n3_ : Aside0 (Kd.R Kd.bool 4 ((w16.setCell ⟨gb238, 0, none⟩ (.slice Ao17 t231.length co17)).setCell ⟨gb238, 1, none⟩ (.slice Ao22 t234.length co22)) w.heap.size (fun k_ => some k_ ≠ (.slice Ao10 t223.length co10 : Value).ownBlock ∧ some k_ ≠ (.slice Ao14 t226.length co14 : Value).ownBlock ∧ some k_ ≠ (.slice Ao17 t231.length co17 : Value).ownBlock) (.slice Ao22 t234.length co22) t234) := ⟨by exact Kd.R_mono (Kd.R_far (p := ⟨gb238, 1, none⟩) (Kd.R_far (p := ⟨gb238, 0, none⟩) (Kd.R_types HO236.out BK238.out (by decide)) (fun _ hk => hk.2) (.slice Ao17 t231.length co17)) (fun _ hk => hk.2) (.slice Ao22 t234.length co22)) (fun _ hk => ⟨hk.1.1.2, ⟨hk.1.2, hk.1.1.1⟩⟩)⟩
  have n4_ : Aside0 (((w16.setCell ⟨gb238, 0, none⟩ (.slice Ao17 t231.length co17)).setCell ⟨gb238, 1, none⟩ (.slice Ao22 t234.length co22)).heap[gb221]? = some (.cells #[.slice none 0 0, .slice none 0 0] 60 (0, 0))) := ⟨by refine blk_far ?_ NB221_238.out _; refine blk_far ?_ NB221_238.out _; exact BK221.out⟩
  have n5_ : Aside0 (((w16.setCell ⟨gb238, 0, none⟩ (.slice Ao17 t231.length co17)).setCell ⟨gb238, 1, none⟩ (.slice Ao22 t234.length co22)).heap[gb222]? = some (.cells #[.slice none 0 0, .slice none 0 0] 60 (0, 0))) := ⟨by refine blk_far ?_ NB222_238.out _; refine blk_far ?_ NB222_238.out _; exact BK222.out⟩
  have n6_ : Aside0 (((w16.setCell ⟨gb238, 0, none⟩ (.slice Ao17 t231.length co17)).setCell ⟨gb238, 1, none⟩ (.slice Ao22 t234.length co22)).heap[gb230]? = some (.cells #[.slice Ao10 t223.length co10, .slice Ao14 t226.length co14] 60 (0, 0))) := ⟨by refine blk_far ?_ NB230_238.out _; refine blk_far ?_ NB230_238.out _; exact BK230.out⟩
  have n7_ : Aside0 (((w16.setCell ⟨gb238, 0, none⟩ (.slice Ao17 t231.length co17)).setCell ⟨gb238, 1, none⟩ (.slice Ao22 t234.length co22)).heap[gb238]? = some (.cells #[.slice Ao17 t231.length co17, .slice Ao22 t234.length co22] 60 (0, 0))) := ⟨by refine blk_put (cs := #[.slice Ao17 t231.length co17, .slice none 0 0]) ?_ 1 _ rfl; refine blk_put (cs := #[.slice none 0 0, .slice none 0 0]) ?_ 0 _ rfl; exact BK238.out⟩
  have n8_ : Aside0 (Below w.heap.size w ((w16.setCell ⟨gb238, 0, none⟩ (.slice Ao17 t231.length co17)).setCell ⟨gb238, 1, none⟩ (.slice Ao22 t234.length co22))) := ⟨by repeat (first | (with_reducible first | exact HB.out | refine bS ?_ GE238.out))⟩
  (try clear HO225)
  (try clear HO228)
  (try clear HO233)
  (try clear HO236)
  (try clear BK221)
  (try clear BK222)
  (try clear BK230)
  (try clear BK238)
  (try clear HB)
  generalize ((w16.setCell ⟨gb238, 0, none⟩ (.slice Ao17 t231.length co17)).setCell ⟨gb238, 1, none⟩ (.slice Ao22 t234.length co22)) = w23 at n0_ n1_ n2_ n3_ n4_ n5_ n6_ n7_ n8_ ⊢
  have HO225 := n0_
  have HO228 := n1_
  have HO233 := n2_
  have HO236 := n3_
  have BK221 := n4_
  have BK222 := n5_
  have BK230 := n6_
  have BK238 := n7_
  have HB := n8_
  clear n0_ n1_ n2_ n3_ n4_ n5_ n6_ n7_ n8_
  replace HO225 := aM (rD HO225.out)
  replace HO228 := aM (rD HO228.out)
  replace HO233 := aM (rD HO233.out)
  replace HO236 := aM (rD HO236.out)
  replace BK221 := aM (kD BK221.out)
  replace BK222 := aM (kD BK222.out)
  replace BK230 := aM (kD BK230.out)
  replace BK238 := aM (kD BK238.out)
  replace HB := aM (b1 HB.out)
  refine start_ (n := 9) (S := fun w' => w'.cell? ⟨gb230, 0, none⟩ = some (.slice Ao10 t223.length co10) ∧ w'.cell? ⟨gb230, 1, none⟩ = some (.slice Ao14 t226.length co14) ∧ w'.cell? ⟨gb238, 0, none⟩ = some (.slice Ao17 t231.length co17) ∧ w'.cell? ⟨gb238, 1, none⟩ = some (.slice Ao22 t234.length co22)) (ds := []) #[false, false, false, false, false, false, false, false, false] (by kernel_rfl) rfl rfl ⟨(blk_cell BK230.out 0).trans rfl, (blk_cell BK230.out 1).trans rfl, (blk_cell BK238.out 0).trans rfl, (blk_cell BK238.out 1).trans rfl⟩ (fun hHeld => ?_); refine with_tabW impl_two.tab3 impl_two.bits3 (fun HT_ HW_ => ?_)
  generalize w23.drew = w24 at HO225 HO228 HO233 HO236 BK221 BK222 BK230 BK238 HB hHeld ⊢
  refine pure_ (i := 2) (N := some 23) (v := ?_) (a' := ?_) #[false, false, true, false, false, false, false, false, false] rfl rfl (any_of HT_.out (by kernel_rfl)) (fun _ _ _ h => h) (Or.inl ⟨by rfl, ?_⟩) ?_ ?_
  rotate_left
  ·intro w'
   go_simp
   with_reducible rfl
  rotate_left
  ·simp only [Act.put, sA, sZ, sS, i64_w, i32_w]
   rfl
  refine pure_ (i := 3) (N := some 24) (v := ?_) (a' := ?_) #[false, false, true, true, false, false, false, false, false] rfl rfl (any_of HT_.out (by kernel_rfl)) (fun _ _ _ h => h) (Or.inl ⟨by rfl, ?_⟩) ?_ ?_
  rotate_left
  ·intro w'
   go_simp
   with_reducible rfl
  rotate_left
  ·simp only [Act.put, sA, sZ, sS, i64_w, i32_w]
   rfl
  first
  |refine pure_ (i := 4) (N := some 25) (v := ?_) (a' := ?_) #[false, false, true, true, true, false, false, false, false] rfl rfl (any_of HT_.out (by kernel_rfl)) (fun _ _ _ h => h) (Or.inl ⟨by rfl, ?_⟩) ?_ ?_
   rotate_left
   ·intro w'
    go_simp
    with_reducible rfl
  |refine pure_ (i := 4) (N := some 25) (v := undef) (a' := ?_) #[false, false, true, true, true, false, false, false, false] rfl rfl (any_of HT_.out (by kernel_rfl)) (fun _ _ _ h => h) (Or.inr ⟨by rfl, rfl⟩) ?_ ?_
  rotate_left
  ·simp only [Act.put, sA, sZ, sS, i64_w, i32_w]
   rfl
  refine pure_ (i := 5) (N := some 26) (v := ?_) (a' := ?_) #[false, false, true, true, true, true, false, false, false] rfl rfl (any_of HT_.out (by kernel_rfl)) (fun _ _ _ h => h) (Or.inl ⟨by rfl, ?_⟩) ?_ ?_
  rotate_left
  ·intro w'
   go_simp
   with_reducible rfl
  rotate_left
  ·simp only [Act.put, sA, sZ, sS, i64_w, i32_w]
   rfl
  refine take_ (i := 0) (N := some 21) (v := ?_) (a' := ?_) #[true, false, true, true, true, true, false, false, false] rfl rfl (take_ofW HT_.out HW_.out (by kernel_rfl)) (fun _ _ _ h => h) (Or.inl ⟨by rfl, ?_⟩) hHeld ?_ ?_
  rotate_left
  ·rintro w' ⟨s0, s1, s2, s3⟩
   go_simp
   with_reducible rfl
  rotate_left
  ·simp only [Act.put, sA, sZ, sS, i64_w, i32_w]
   rfl
  refine take_ (i := 1) (N := some 22) (v := ?_) (a' := ?_) #[true, true, true, true, true, true, false, false, false] rfl rfl (take_ofW HT_.out HW_.out (by kernel_rfl)) (fun _ _ _ h => h) (Or.inl ⟨by rfl, ?_⟩) hHeld ?_ ?_
  rotate_left
  ·rintro w' ⟨s0, s1, s2, s3⟩
   go_simp
   with_reducible rfl
  rotate_left
  ·simp only [Act.put, sA, sZ, sS, i64_w, i32_w]
   rfl
  refine one_ (i := 6) (N := none) #[true, true, true, true, true, true, true, false, false] rfl rfl (one_of HT_.out (by kernel_rfl)) (by decide) (fun K hK => ?_)
  have hs25 : w24.cell? ⟨gb221, 0, none⟩ = some (.slice none 0 0) := (blk_cell BK221.out 0).trans rfl
  have hfs25 := blk_frozen BK221.out 0
  have hns25_1 := NB222_221.out
  have hns25_2 := NB230_221.out
  have hns25_3 := NB238_221.out
  have hms25_1 := NB221_222.out
  have hms25_2 := NB221_230.out
  have hms25_3 := NB221_238.out
  have hs26 : w24.cell? ⟨gb221, 1, none⟩ = some (.slice none 0 0) := (blk_cell BK221.out 1).trans rfl
  have hfs26 := blk_frozen BK221.out 1
  have hns26_1 := NB222_221.out
  have hns26_2 := NB230_221.out
  have hns26_3 := NB238_221.out
  have hms26_1 := NB221_222.out
  have hms26_2 := NB221_230.out
  have hms26_3 := NB221_238.out
  refine skip_ (w1 := ?_) (by rfl) rfl ?_ ?_
  rotate_left
  ·go_simp
   rfl
  refine hK.out _ _ ⟨((cell_far (p := ⟨gb221, _, none⟩) NB230_221.out _).trans (((cell_far (p := ⟨gb221, _, none⟩) NB230_221.out _).trans (hHeld.1)))), ((cell_far (p := ⟨gb221, _, none⟩) NB230_221.out _).trans (((cell_far (p := ⟨gb221, _, none⟩) NB230_221.out _).trans (hHeld.2.1)))), ((cell_far (p := ⟨gb221, _, none⟩) NB238_221.out _).trans (((cell_far (p := ⟨gb221, _, none⟩) NB238_221.out _).trans (hHeld.2.2.1)))), ((cell_far (p := ⟨gb221, _, none⟩) NB238_221.out _).trans (((cell_far (p := ⟨gb221, _, none⟩) NB238_221.out _).trans (hHeld.2.2.2))))⟩ (fun hHeld => ?_)
  clear hK K
  refine one_ (i := 7) (N := none) #[true, true, true, true, true, true, true, true, false] rfl rfl (one_of HT_.out (by kernel_rfl)) (by decide) (fun K hK => ?_)
  have hs27 : w24.cell? ⟨gb222, 0, none⟩ = some (.slice none 0 0) := (blk_cell BK222.out 0).trans rfl
  have hfs27 := blk_frozen BK222.out 0
  have hns27_0 := NB221_222.out
  have hns27_2 := NB230_222.out
  have hns27_3 := NB238_222.out
  have hms27_0 := NB222_221.out
  have hms27_2 := NB222_230.out
  have hms27_3 := NB222_238.out
  have hs28 : w24.cell? ⟨gb222, 1, none⟩ = some (.slice none 0 0) := (blk_cell BK222.out 1).trans rfl
  have hfs28 := blk_frozen BK222.out 1
  have hns28_0 := NB221_222.out
  have hns28_2 := NB230_222.out
  have hns28_3 := NB238_222.out
  have hms28_0 := NB222_221.out
  have hms28_2 := NB222_230.out
  have hms28_3 := NB222_238.out
  refine skip_ (w1 := ?_) (by rfl) rfl ?_ ?_
  rotate_left
  ·go_simp
   rfl
  refine hK.out _ _ ⟨((cell_far (p := ⟨gb222, _, none⟩) NB230_222.out _).trans (((cell_far (p := ⟨gb222, _, none⟩) NB230_222.out _).trans (hHeld.1)))), ((cell_far (p := ⟨gb222, _, none⟩) NB230_222.out _).trans (((cell_far (p := ⟨gb222, _, none⟩) NB230_222.out _).trans (hHeld.2.1)))), ((cell_far (p := ⟨gb222, _, none⟩) NB238_222.out _).trans (((cell_far (p := ⟨gb222, _, none⟩) NB238_222.out _).trans (hHeld.2.2.1)))), ((cell_far (p := ⟨gb222, _, none⟩) NB238_222.out _).trans (((cell_far (p := ⟨gb222, _, none⟩) NB238_222.out _).trans (hHeld.2.2.2))))⟩ (fun hHeld => ?_)
  clear hK K
  refine pure_ (i := 8) (N := some 6) (v := ?_) (a' := ?_) #[true, true, true, true, true, true, true, true, true] rfl rfl (any_of HT_.out (by kernel_rfl)) (fun _ _ _ h => h) (Or.inl ⟨by rfl, ?_⟩) ?_ ?_
  rotate_left
  ·intro w'
   go_simp
   with_reducible rfl
  rotate_left
  ·simp only [Act.put, sA, sZ, sS, i64_w, i32_w]
   rfl
  refine done_ (done_of HT_.out (by kernel_rfl)) ?_
  try go_wp2
  refine bodyPost_ret (results_list (rs := [.cell 4 60, .cell 5 60, .tmp 6]) rfl (by simp) (.cell gb221 60 #[.slice Ao10 t223.length co10, .slice Ao14 t226.length co14] (0, 0) _ rfl (by refine blk_far ?_ NB221_222.out _; refine blk_far ?_ NB221_222.out _; refine blk_put (cs := #[.slice Ao10 t223.length co10, .slice none 0 0]) ?_ 1 _ rfl; refine blk_put (cs := #[.slice none 0 0, .slice none 0 0]) ?_ 0 _ rfl; exact BK221.out) Try.underlying60 rfl (by kernel_rfl) (.cell gb222 60 #[.slice Ao17 t231.length co17, .slice Ao22 t234.length co22] (0, 0) _ rfl (by refine blk_put (cs := #[.slice Ao17 t231.length co17, .slice none 0 0]) ?_ 1 _ rfl; refine blk_put (cs := #[.slice none 0 0, .slice none 0 0]) ?_ 0 _ rfl; refine blk_far ?_ NB222_221.out _; refine blk_far ?_ NB222_221.out _; exact BK222.out) Try.underlying60 rfl (by kernel_rfl) (.tmp .nil)))) rfl ?_
  exact ⟨_, _, _, _, by first | rfl | (simp [*, errW_none, errW_some] <;> rfl), by exact Kd.R_mono (Kd.R_far (p := ⟨gb222, 1, none⟩) (Kd.R_far (p := ⟨gb222, 0, none⟩) (Kd.R_far (p := ⟨gb221, 1, none⟩) (Kd.R_far (p := ⟨gb221, 0, none⟩) (Kd.R_types (Kd.R_types HO225.out BK221.out (by decide)) BK222.out (by decide)) (fun _ hk => hk.1.2) (.slice Ao10 t223.length co10)) (fun _ hk => hk.1.2) (.slice Ao14 t226.length co14)) (fun _ hk => hk.2) (.slice Ao17 t231.length co17)) (fun _ hk => hk.2) (.slice Ao22 t234.length co22)) (fun _ hk => ⟨hk.1.1.1, ⟨hk.1.1.2.1, hk.1.1.2.2⟩⟩), by exact Kd.R_mono (Kd.R_far (p := ⟨gb222, 1, none⟩) (Kd.R_far (p := ⟨gb222, 0, none⟩) (Kd.R_far (p := ⟨gb221, 1, none⟩) (Kd.R_far (p := ⟨gb221, 0, none⟩) (Kd.R_types (Kd.R_types HO228.out BK221.out (by decide)) BK222.out (by decide)) (fun _ hk => hk.1.2) (.slice Ao10 t223.length co10)) (fun _ hk => hk.1.2) (.slice Ao14 t226.length co14)) (fun _ hk => hk.2) (.slice Ao17 t231.length co17)) (fun _ hk => hk.2) (.slice Ao22 t234.length co22)) (fun _ hk => ⟨hk.1.1.1, ⟨hk.1.1.2.1, hk.1.1.2.2⟩⟩), by exact Kd.R_mono (Kd.R_far (p := ⟨gb222, 1, none⟩) (Kd.R_far (p := ⟨gb222, 0, none⟩) (Kd.R_far (p := ⟨gb221, 1, none⟩) (Kd.R_far (p := ⟨gb221, 0, none⟩) (Kd.R_types (Kd.R_types HO233.out BK221.out (by decide)) BK222.out (by decide)) (fun _ hk => hk.1.2) (.slice Ao10 t223.length co10)) (fun _ hk => hk.1.2) (.slice Ao14 t226.length co14)) (fun _ hk => hk.2) (.slice Ao17 t231.length co17)) (fun _ hk => hk.2) (.slice Ao22 t234.length co22)) (fun _ hk => ⟨hk.1.1.1, ⟨hk.1.1.2.1, hk.1.1.2.2⟩⟩), by exact Kd.R_mono (Kd.R_far (p := ⟨gb222, 1, none⟩) (Kd.R_far (p := ⟨gb222, 0, none⟩) (Kd.R_far (p := ⟨gb221, 1, none⟩) (Kd.R_far (p := ⟨gb221, 0, none⟩) (Kd.R_types (Kd.R_types HO236.out BK221.out (by decide)) BK222.out (by decide)) (fun _ hk => hk.1.2) (.slice Ao10 t223.length co10)) (fun _ hk => hk.1.2) (.slice Ao14 t226.length co14)) (fun _ hk => hk.2) (.slice Ao17 t231.length co17)) (fun _ hk => hk.2) (.slice Ao22 t234.length co22)) (fun _ hk => ⟨hk.1.1.1, ⟨hk.1.1.2.1, hk.1.1.2.2⟩⟩), by repeat (first | (with_reducible first | exact HB.out | refine bS ?_ GE221.out | refine bS ?_ GE222.out))⟩


def impl_set_has.f (l0_0 : List Bool) (l0_1 : List Bool) (a1 : Int) : Option (Bool) := if a1 < 0 then (some false) else (if a1 < (l0_0.length : Int) then (if 0 ≤ a1 then (some (rdOf false l0_0 a1)) else (none)) else (if (l0_1.length : Int) = 0 then (none) else (if 0 ≤ (Int.tmod (wrap64 (a1 - (l0_0.length : Int))) (l0_1.length : Int)) then (if (Int.tmod (wrap64 (a1 - (l0_0.length : Int))) (l0_1.length : Int)) < (l0_1.length : Int) then (some (rdOf false l0_1 (Int.tmod (wrap64 (a1 - (l0_0.length : Int))) (l0_1.length : Int)))) else (none)) else (none))))
set_option maxHeartbeats 8000000 in
set_option maxRecDepth 100000 in
theorem impl_set_has.calls (A0_0 : Option Addr) (c0_0 : Nat) (l0_0 : List Bool) (A0_1 : Option Addr) (c0_1 : Nat) (l0_1 : List Bool) (a1 : Int) (r : Bool) (w : World) (hr0_0 : Kd.C Kd.bool w A0_0 l0_0.length l0_0) (hc0_0 : l0_0.length ≤ c0_0) (hr0_1 : Kd.C Kd.bool w A0_1 l0_1.length l0_1) (hc0_1 : l0_1.length ≤ c0_1) (h : impl_set_has.f l0_0 l0_1 a1 = some r) :
  Calls Try.prog 61 #[.agg #[.slice A0_0 l0_0.length c0_0, .slice A0_1 l0_1.length c0_1], .int .i64 a1] w fun e w' => e = .returned (.bool r) ∧ Below w.heap.size w w' := by
 have hu60 := Try.underlying60
 have HR0_0 := aM hr0_0
 have HC0_0 := aM hc0_0
 clear hr0_0 hc0_0
 have HR0_1 := aM hr0_1
 have HC0_1 := aM hc0_1
 clear hr0_1 hc0_1
 have HB := aM (Below.refl w.heap.size w)
 have H : (if a1 < 0 then (some false) else (if a1 < (l0_0.length : Int) then (if 0 ≤ a1 then (some (rdOf false l0_0 a1)) else (none)) else (if (l0_1.length : Int) = 0 then (none) else (if 0 ≤ (Int.tmod (wrap64 (a1 - (l0_0.length : Int))) (l0_1.length : Int)) then (if (Int.tmod (wrap64 (a1 - (l0_0.length : Int))) (l0_1.length : Int)) < (l0_1.length : Int) then (some (rdOf false l0_1 (Int.tmod (wrap64 (a1 - (l0_0.length : Int))) (l0_1.length : Int)))) else (none)) else (none))))) = some r := h
 clear h
 by_cases c3 : a1 < 0
 ·rw [if_pos c3] at H
  have c3b0 : decide (a1 < 0) = true := decide_eq_true c3
  clear c3
  obtain rfl := Option.some.inj H
  go_enter Try.func61, Try.ntmps61
  go_wp2_with (first | ((with_reducible refine gate_dst (N := 2) rfl ?_); refine box_event ?hg (N := 2) ?hd (cs := #[.slice A0_0 l0_0.length c0_0, .slice A0_1 l0_1.length c0_1]) (t := 60) ?hr ?_; (case hd => rfl); (case hg => rfl); (case hr => first | (go_simp; done)); intro gb239 hg w4 hbox hb; have BK239 := aM hbox; have GW239 := aM ((by rw [hg]; exact (below_size HB.out) : w.heap.size ≤ gb239)); have GE239 := aM ((by rw [hg]; exact (below_size HB.out) : w.heap.size ≤ gb239)); replace HB := aM (below_step HB.out hb); clear hb hbox hg))
  repeat (go_quiet (fail); try go_wp2_with (fail))
  go_ret
  exact ⟨by first | rfl | (simp [*, errW_none, errW_some] <;> rfl), HB.out⟩
 ·rw [if_neg c3] at H
  have c3b0 : decide (a1 < 0) = false := decide_eq_false c3
  clear c3
  by_cases c5 : a1 < (l0_0.length : Int)
  ·rw [if_pos c5] at H
   have c5b0 : decide (a1 < (l0_0.length : Int)) = true := decide_eq_true c5
   clear c5
   by_cases c6 : 0 ≤ a1
   ·rw [if_pos c6] at H
    have c6b0 : decide (0 ≤ a1) = true := decide_eq_true c6
    clear c6
    obtain rfl := Option.some.inj H
    go_enter Try.func61, Try.ntmps61
    go_wp2_with (first | ((with_reducible refine gate_dst (N := 2) rfl ?_); refine box_event ?hg (N := 2) ?hd (cs := #[.slice A0_0 l0_0.length c0_0, .slice A0_1 l0_1.length c0_1]) (t := 60) ?hr ?_; (case hd => rfl); (case hg => rfl); (case hr => first | (go_simp; done)); intro gb239 hg w7 hbox hb; have BK239 := aM hbox; have GW239 := aM ((by rw [hg]; exact (below_size HB.out) : w.heap.size ≤ gb239)); have GE239 := aM ((by rw [hg]; exact (below_size HB.out) : w.heap.size ≤ gb239)); replace HB := aM (below_step HB.out hb); clear hb hbox hg; have hcz8_0 : w7.cell? ⟨gb239, 0, none⟩ = some (.slice A0_0 l0_0.length c0_0) := (blk_cell BK239.out 0).trans rfl; have hcz8_1 : w7.cell? ⟨gb239, 1, none⟩ = some (.slice A0_1 l0_1.length c0_1) := (blk_cell BK239.out 1).trans rfl; have hfz8_0 := blk_frozen BK239.out 0; have hfz8_1 := blk_frozen BK239.out 1; have p240 : 0 ≤ (a1 : Int) := of_decide_eq_true (by (with_reducible assumption)); have q240 : a1 < (l0_0.length : Int) := of_decide_eq_true (by (with_reducible assumption)); obtain ⟨ad240, e240, hx240_0⟩ := Kd.at_bool HR0_0.out a1 p240 q240; cases e240; replace hx240_0 := (HB.out.cell (World.block_lt_of_cell? w _ hx240_0)).trans hx240_0; replace p240 := eq_true p240; replace q240 := eq_true q240))
    repeat (go_quiet (fail); try go_wp2_with (fail))
    go_ret
    exact ⟨by first | rfl | (simp [*, errW_none, errW_some] <;> rfl), HB.out⟩
   ·rw [if_neg c6] at H
    exact absurd H (by simp)
  ·rw [if_neg c5] at H
   have c5b0 : decide (a1 < (l0_0.length : Int)) = false := decide_eq_false c5
   clear c5
   by_cases c9 : (l0_1.length : Int) = 0
   ·rw [if_pos c9] at H
    exact absurd H (by simp)
   ·rw [if_neg c9] at H
    have c9b0 : ((l0_1.length : Int) == 0) = false := beq_eq_false_iff_ne.mpr c9
    have c9b1 : ((l0_1.length : Int) != 0) = true := bne_iff_ne.mpr c9
    have c9b2 : ¬ (l0_1 = []) := fun h_ => c9 (by rw [h_]; rfl)
    obtain ⟨ji10, hji10⟩ : ∃ j_ : Int, (Int.tmod (wrap64 (a1 - (l0_0.length : Int))) (l0_1.length : Int)) = j_ := ⟨_, rfl⟩
    replace H : (if 0 ≤ (ji10) then (if (ji10) < (l0_1.length : Int) then (some (rdOf false l0_1 (ji10))) else (none)) else (none)) = some r := by first | (rw [hji10] at H; exact H)
    by_cases c11 : 0 ≤ (ji10)
    ·rw [if_pos c11] at H
     have c11b0 : decide (0 ≤ (ji10)) = true := decide_eq_true c11
     clear c11
     by_cases c12 : (ji10) < (l0_1.length : Int)
     ·rw [if_pos c12] at H
      have c12b0 : decide ((ji10) < (l0_1.length : Int)) = true := decide_eq_true c12
      clear c12
      obtain rfl := Option.some.inj H
      go_enter Try.func61, Try.ntmps61
      go_wp2_with (first | ((with_reducible refine gate_dst (N := 2) rfl ?_); refine box_event ?hg (N := 2) ?hd (cs := #[.slice A0_0 l0_0.length c0_0, .slice A0_1 l0_1.length c0_1]) (t := 60) ?hr ?_; (case hd => rfl); (case hg => rfl); (case hr => first | (go_simp; done)); intro gb239 hg w13 hbox hb; have BK239 := aM hbox; have GW239 := aM ((by rw [hg]; exact (below_size HB.out) : w.heap.size ≤ gb239)); have GE239 := aM ((by rw [hg]; exact (below_size HB.out) : w.heap.size ≤ gb239)); replace HB := aM (below_step HB.out hb); clear hb hbox hg; have hcz14_0 : w13.cell? ⟨gb239, 0, none⟩ = some (.slice A0_0 l0_0.length c0_0) := (blk_cell BK239.out 0).trans rfl; have hcz14_1 : w13.cell? ⟨gb239, 1, none⟩ = some (.slice A0_1 l0_1.length c0_1) := (blk_cell BK239.out 1).trans rfl; have hfz14_0 := blk_frozen BK239.out 0; have hfz14_1 := blk_frozen BK239.out 1; have p241 : 0 ≤ ((ji10) : Int) := of_decide_eq_true (by (with_reducible assumption)); have q241 : (ji10) < (l0_1.length : Int) := of_decide_eq_true (by (with_reducible assumption)); obtain ⟨ad241, e241, hx241_0⟩ := Kd.at_bool HR0_1.out (ji10) p241 q241; cases e241; replace hx241_0 := (HB.out.cell (World.block_lt_of_cell? w _ hx241_0)).trans hx241_0; replace p241 := eq_true p241; replace q241 := eq_true q241))
      repeat (go_quiet (fail); try go_wp2_with (fail))
      go_ret
      exact ⟨by first | rfl | (simp [*, errW_none, errW_some] <;> rfl), by repeat (first | (with_reducible first | exact HB.out | apply bN))⟩
     ·rw [if_neg c12] at H
      exact absurd H (by simp)
    ·rw [if_neg c11] at H
     exact absurd H (by simp)

end Go.Proofs.Ytpkpgdlbgcjloaa.Q
