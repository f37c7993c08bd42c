/- The program's ProofDifferIs returns what the reference's returns, for all arguments; no condition beyond the statement's own. -/
import Derived.Lib.Builder
import Derived.Shelf.Strings.Builder1
import Derived.Test.YtinjblbfaijhdaaDoorProg
import Derived.Lib.UnsafeStr
import Derived.Test.YtinjblbfaijhdaaDoorCFnExactProofDifferIs8
import Derived.Test.YtinjblbfaijhdaaDoorCFnExactProofDifferIs10
namespace Go.Proofs.YtinjblbfaijhdaaDoor.Q
open Go.RowKit Go.Proofs.YtinjblbfaijhdaaDoorW.PrintWords Go.Proofs.YtinjblbfaijhdaaDoorW.PrintLast Go.Proofs.YtinjblbfaijhdaaDoorW.PrintMore
attribute [local go_sem] max2_int min2_int max_two min_two max_three min_three max_four min_four   -- for this text's walks alone
set_option linter.unusedVariables false
set_option linter.unusedSimpArgs false
/-- The signs of a list as a text. -/
def impl_told.sgn (b : Bool) : UInt8 := if b = true then 49 else 48
theorem impl_told.size : (Tryd.prog.info? 111).map (·.size) = some 2 := by kernel_rfl
theorem impl_told.lies : liesAt Tryd.prog Tryd.prog.depth 111 (2 / Tryd.prog.cellsOf 111) 0 111 1 = true := by kernel_rfl
set_option maxHeartbeats 1000000 in
set_option maxRecDepth 100000 in
theorem impl_told.cc_used (b : Nat) (w : World) (h0 : w.cell? ⟨b, 0, none⟩ = some (.pointer (some ⟨b, 0, none⟩))) :
  Calls Tryd.prog 121 #[.pointer (some ⟨b, 0, none⟩)] w fun e w' => e = .returned (.tuple #[]) ∧ w' = w := by
 obtain ⟨j, hj, _⟩ := Option.map_eq_some_iff.1 impl_told.size
 go_enter Tryd.func121, Tryd.ntmps121
 go_wp2
 rw [Lib.run_neq_ptr_same w _ Tryd.underlying109 hj]
 go_wp2
 go_end0
 exact ⟨rfl, rfl⟩
set_option maxHeartbeats 1000000 in
set_option maxRecDepth 100000 in
theorem impl_told.cc_fresh (b : Nat) (w : World) (h0 : w.cell? ⟨b, 0, none⟩ = some (.pointer none)) (hsh : w.shape? b = some (111, 2)) (hfz : w.frozen? ⟨b, 0, none⟩ = false) :
  Calls Tryd.prog 121 #[.pointer (some ⟨b, 0, none⟩)] w fun e w' => e = .returned (.tuple #[]) ∧ w' = w.setCell ⟨b, 0, none⟩ (.pointer (some ⟨b, 0, none⟩)) := by
 obtain ⟨j, hj, hjs⟩ := Option.map_eq_some_iff.1 impl_told.size
 go_enter Tryd.func121, Tryd.ntmps121
 go_wp2
 rw [Lib.run_to_unsafe w ⟨b, 0, none⟩ Tryd.underlying109 Tryd.underlying142 hj (by rw [hjs]; decide) hsh (Nat.zero_lt_succ 1)]
 simp only [Result.andThen]
 rw [Oper.upon_value]
 go_wp2
 rw [run_callFunc_extern Tryd.func132 (by kernel_rfl) (by kernel_rfl) (by kernel_rfl) (e := Extern.AbiNoEscape.same) (by kernel_rfl)]
 rw [Lib.run_noEscape]
 simp only [Result.andThen]
 rw [Oper.upon_value]
 go_wp2
 rw [Lib.run_from_unsafe w ⟨b, 0, none⟩ Tryd.underlying142 Tryd.underlying109 hj hsh impl_told.lies]
 simp only [Result.andThen]
 rw [Oper.upon_value]
 go_wp2
 go_end0
 exact ⟨rfl, rfl⟩
theorem impl_told.cc (B b : Nat) (bs : List Value) (w : World) (h : Lib.IsBuilder 111 5 B b bs w) :
  Calls Tryd.prog 121 #[.pointer (some ⟨b, 0, none⟩)] w fun e w' => e = .returned (.tuple #[]) ∧ (Lib.BuilderAt 111 5 B b (.pointer (some ⟨b, 0, none⟩)) bs w' ∧ Below B w w') := by
 rcases h with h | h
 ·refine (impl_told.cc_fresh b w h.cell0 h.shape h.frozen0).mono ?_
  rintro e w' ⟨rfl, rfl⟩
  exact ⟨rfl, h.used _, (Below.refl B w).setCell (p := ⟨b, 0, none⟩) h.1 _⟩
 ·refine (impl_told.cc_used b w h.cell0).mono ?_
  rintro e w' ⟨rfl, rfl⟩
  exact ⟨rfl, h, Below.refl B _⟩
theorem impl_told.take (l : List Bool) (k : Nat) (b : Bool) (h : k < l.length) (e : l.getD k false = b) : Lib.byteCells ((l.take (k + 1)).map impl_told.sgn) = Lib.byteCells ((l.take k).map impl_told.sgn) ++ [.int .u8 ((impl_told.sgn b).toNat : Int)] := by
 rw [List.take_succ_eq_append_getElem h, List.map_append, Lib.byteCells_append]
 have : l[k] = b := by rw [← e]; simp [List.getD, List.getElem?_eq_getElem h]
 rw [this]; rfl
end Go.Proofs.YtinjblbfaijhdaaDoor.Q

namespace Go.Proofs.YtinjblbfaijhdaaDoor.Q
open Go.RowKit Go.Proofs.YtinjblbfaijhdaaDoorW.PrintWords Go.Proofs.YtinjblbfaijhdaaDoorW.PrintLast Go.Proofs.YtinjblbfaijhdaaDoorW.PrintMore
attribute [local go_sem] max2_int min2_int max_two min_two max_three min_three max_four min_four   -- for this text's walks alone
set_option linter.unusedVariables false
set_option linter.unusedSimpArgs false

end Go.Proofs.YtinjblbfaijhdaaDoor.Q

namespace Go.Proofs.YtinjblbfaijhdaaDoor.Q
open Go.RowKit Go.Proofs.YtinjblbfaijhdaaDoorW.PrintWords Go.Proofs.YtinjblbfaijhdaaDoorW.PrintLast Go.Proofs.YtinjblbfaijhdaaDoorW.PrintMore
attribute [local go_sem] max2_int min2_int max_two min_two max_three min_three max_four min_four   -- for this text's walks alone
set_option linter.unusedVariables false
set_option linter.unusedSimpArgs false

end Go.Proofs.YtinjblbfaijhdaaDoor.Q

namespace Go.Proofs.YtinjblbfaijhdaaDoor.Q
open Go.RowKit Go.Proofs.YtinjblbfaijhdaaDoorW.PrintWords Go.Proofs.YtinjblbfaijhdaaDoorW.PrintLast Go.Proofs.YtinjblbfaijhdaaDoorW.PrintMore
attribute [local go_sem] max2_int min2_int max_two min_two max_three min_three max_four min_four   -- for this text's walks alone
set_option linter.unusedVariables false
set_option linter.unusedSimpArgs false

end Go.Proofs.YtinjblbfaijhdaaDoor.Q

namespace Go.Proofs.YtinjblbfaijhdaaDoor.Q
open Go.RowKit Go.Proofs.YtinjblbfaijhdaaDoorW.PrintWords Go.Proofs.YtinjblbfaijhdaaDoorW.PrintLast Go.Proofs.YtinjblbfaijhdaaDoorW.PrintMore
open Go.Proofs.YtinjblbfaijhdaaDoor.Pl
set_option linter.unusedVariables false
set_option linter.unusedSimpArgs false
/-- What is told of a set: the text of its tidy form, if this is not too long. -/
def Told (f : Nat → Bool) (x : ByteArray × Bool) : Prop := ∃ t r, Canon t r ∧ (∀ n, hasB t r n = f n) ∧ x = if t.length ≤ 60 ∧ r.length ≤ 60 then (text t r, true) else ((⟨#[]⟩ : ByteArray), false)
theorem Told.unique {f : Nat → Bool} {x y : ByteArray × Bool} (h : Told f x) (k : Told f y) : x = y := by
  obtain ⟨t, r, h1, h2, rfl⟩ := h
  obtain ⟨t', r', k1, k2, rfl⟩ := k
  obtain ⟨rfl, rfl⟩ := canon_unique h1 k1 (fun n => by rw [h2, k2])
  rfl
theorem Told.congr {f g : Nat → Bool} {x : ByteArray × Bool} (h : Told f x) (e : ∀ n, f n = g n) : Told g x := by
  obtain ⟨t, r, h1, h2, h3⟩ := h
  exact ⟨t, r, h1, fun n => by rw [h2, e], h3⟩
theorem Told.no {f : Nat → Bool} {x : ByteArray × Bool} (h : Told f x) (e : x.2 = false) : x = ((⟨#[]⟩ : ByteArray), false) := by
  obtain ⟨t, r, h1, h2, rfl⟩ := h
  by_cases c : t.length ≤ 60 ∧ r.length ≤ 60
  · rw [if_pos c] at e; cases e
  · rw [if_neg c]
def num (b : Bool) : Int := if b = true then 49 else 48
end Go.Proofs.YtinjblbfaijhdaaDoor.Q
