/- The law FnSolveTwo holds for all that it draws. -/
import Derived.Test.YtbepcaghlekbaaaRows
import Derived.ProofKit
import Derived.JoinedOf
namespace Go.Proofs.Ytbepcaghlekbaaa.Ini
set_option maxRecDepth 100000
def signs : List Nat := [104, 97, 114, 110, 101, 115, 115, 32, 100, 102, 56, 56, 53, 52, 99, 54, 54, 54, 56, 48, 49, 51, 50, 57, 49, 56, 102, 49, 55, 53, 98, 51, 57, 97, 100, 56, 97, 49, 99, 50, 52, 100, 98, 49, 54, 56, 101, 54, 99, 51, 56, 53, 51, 97, 100, 52, 48, 48, 98, 99, 48, 54, 102, 99, 97, 98, 48, 98, 48, 57, 54, 97, 32, 99, 117, 116, 32, 97, 116, 32, 108, 111, 111, 112, 46, 101, 120, 97, 109, 112, 108, 101, 47, 111, 110, 101, 108, 101, 116, 116, 101, 114, 47, 108, 97, 119, 115, 46, 70, 110, 87, 97, 121, 115, 84, 119, 111, 32, 108, 111, 111, 112, 46, 101, 120, 97, 109, 112, 108, 101, 47, 111, 110, 101, 108, 101, 116, 116, 101, 114, 47, 108, 97, 119, 115, 46, 70, 110, 83, 111, 108, 118, 101, 84, 119, 111, 32, 108, 111, 111, 112, 46, 101, 120, 97, 109, 112, 108, 101, 47, 111, 110, 101, 108, 101, 116, 116, 101, 114, 47, 108, 97, 119, 115, 46, 70, 110, 87, 97, 121, 115, 66, 97, 99, 107, 32, 108, 111, 111, 112, 46, 101, 120, 97, 109, 112, 108, 101, 47, 111, 110, 101, 108, 101, 116, 116, 101, 114, 47, 108, 97, 119, 115, 46, 70, 110, 87, 97, 121, 115, 80, 97, 114, 116, 32, 108, 111, 111, 112, 46, 101, 120, 97, 109, 112, 108, 101, 47, 111, 110, 101, 108, 101, 116, 116, 101, 114, 47, 108, 97, 119, 115, 46, 70, 110, 87, 97, 121, 115, 66, 97, 103, 115, 32, 108, 111, 111, 112, 46, 101, 120, 97, 109, 112, 108, 101, 47, 111, 110, 101, 108, 101, 116, 116, 101, 114, 47, 108, 97, 119, 115, 46, 70, 110, 87, 97, 121, 115, 77, 97, 110, 121, 32, 108, 111, 111, 112, 46, 101, 120, 97, 109, 112, 108, 101, 47, 111, 110, 101, 108, 101, 116, 116, 101, 114, 47, 108, 97, 119, 115, 46, 70, 110, 87, 97, 121, 115, 70, 101, 119, 32, 108, 111, 111, 112, 46, 101, 120, 97, 109, 112, 108, 101, 47, 111, 110, 101, 108, 101, 116, 116, 101, 114, 47, 108, 97, 119, 115, 46, 70, 110, 87, 97, 121, 115, 70, 105, 114, 115, 116, 32, 108, 111, 111, 112, 46, 101, 120, 97, 109, 112, 108, 101, 47, 111, 110, 101, 108, 101, 116, 116, 101, 114, 47, 108, 97, 119, 115, 46, 70, 110, 87, 97, 121, 115, 79, 100, 100]
theorem line : Try.pinned.checked.prog.initOrder = String.ofList (signs.map Char.ofNat) := by kernel_rfl
theorem ini : Try.pinned.checked.prog.initOrder.toList = signs.map Char.ofNat := by rw [line]; exact String.toList_ofList
theorem make_of (P : Program) (L : List Char) (h : P.initOrder.toList = L) (c : List Char) (r : List (List Char)) (hb : behindMainWord (wordsSigns L) = c :: r) (hc : (c == "gc".toList || c == "spec".toList) = false) (hd : (c == "cut".toList) = true) : P.make = some .cut := by
  unfold Program.make
  rw [h, hb]
  simp only [hc, hd, Bool.true_or, if_true, Bool.false_eq_true, if_false]
theorem enter_of (P : Program) (L : List Char) (h : P.initOrder.toList = L) (c : List Char) (r : List (List Char)) (hb : behindMainWord (wordsSigns L) = c :: r) (h1 : (c == "gc".toList || c == "spec".toList) = false) (h2 : (c == "carried".toList) = false)
    (hs : stripLifts liftWords (c :: r) = ([], c :: r)) (hd : (some c == some "cut".toList) = true) (hl : P.laysLater = false) (hr : P.bearsReflect = false) (hf : P.doorFits [] = true) : P.mayEnter = true := by
  unfold Program.mayEnter
  rw [h, hb]
  simp only [h1, h2, hs, hl, hr, hf, List.head?_cons, hd, Bool.false_and, Bool.false_or, Bool.not_false, Bool.or_true, Bool.and_true, List.contains_nil]
theorem mk : Try.pinned.checked.prog.make = some .cut := make_of _ _ ini [Char.ofNat 99, Char.ofNat 117, Char.ofNat 116] _ rfl (by kernel_rfl) (by kernel_rfl)
theorem me : Try.pinned.checked.prog.mayEnter = true := enter_of _ _ ini [Char.ofNat 99, Char.ofNat 117, Char.ofNat 116] _ rfl (by kernel_rfl) (by kernel_rfl) (by kernel_rfl) (by kernel_rfl) (by kernel_rfl) (by kernel_rfl) (by kernel_rfl)
theorem lf : Try.pinned.checked.prog.liftsFinal = false := by
  unfold Program.liftsFinal Program.headLifts
  rw [ini]
  kernel_rfl
end Go.Proofs.Ytbepcaghlekbaaa.Ini
